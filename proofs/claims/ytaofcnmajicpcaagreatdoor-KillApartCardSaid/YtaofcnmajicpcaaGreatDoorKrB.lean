/- Package kill: the tables of unicode/utf8; runes.Valid; New, Kill. -/
import Derived.Test.YtaofcnmajicpcaaGreatDoorKrA
import Derived.Test.YtaofcnmajicpcaaGreatDoorLayK
namespace Go.Proofs.YtaofcnmajicpcaaGreatDoor
open Go.RowKit
set_option linter.unusedVariables false

/-- unicode/utf8's tables as they are laid, in blocks below N. -/
def Tabs (N : Nat) (w : World) : Prop := Lib.Utf8Tabs (Tryz.laysValid_ren.g 3) (Tryz.laysValid_ren.g 4) w ∧ Tryz.laysValid_ren.g 3 < N ∧ Tryz.laysValid_ren.g 4 < N
theorem Tabs.up {N : Nat} {w w' : World} (h : Tabs N w) (hb : Below w.heap.size w w') : Tabs N w' := ⟨Utf8Tabs_below h.1 hb, h.2⟩
theorem Tabs.only {N : Nat} {S : Nat → Prop} {w w' : World} (h : Tabs N w) (ho : Only S w w') (hs : ∀ k, S k → N ≤ k) : Tabs N w' := by
  obtain ⟨⟨a, b⟩, h3, h4⟩ := h
  have l3 := lt_of_cell (a 0 (by omega))
  have l4 := lt_of_cell (b 0 (by omega)).1
  have e3 := ho.block _ l3 (fun hk => by have := hs _ hk; omega)
  have e4 := ho.block _ l4 (fun hk => by have := hs _ hk; omega)
  exact ⟨⟨fun c hc => (World.cell?_of_block (w := w) (a := ⟨_, c, none⟩) e3).trans (a c hc), fun i hi => ⟨(World.cell?_of_block (w := w) (a := ⟨_, 2 * i, none⟩) e4).trans (b i hi).1, (World.cell?_of_block (w := w) (a := ⟨_, 2 * i + 1, none⟩) e4).trans (b i hi).2⟩⟩, h3, h4⟩
def vld (s : ByteArray) : Bool := Lib.validD s.data.toList
theorem valid_any {N : Nat} (s : ByteArray) (w : World) (hs : s.size ≤ 1000000000) (hT : Tabs N w) : Calls Tryz.prog 45 #[.string s] w fun e w' => e = .returned (.bool (vld s)) ∧ Below w.heap.size w w' := by
  have cV : Calls Tryz.prog 82 #[.string s] w _ := Any.utf8_ValidString Tryz.laysValid s w (by omega) hT.1
  unfold vld
  generalize Lib.validD s.data.toList = V at cV ⊢
  go_enter Tryz.func45, Tryz.ntmps45
  go_wp2_with (go_at_call 82; refine cV.mono ?_; rintro e w' ⟨rfl, hb⟩)
  go_ret
  exact ⟨rfl, hb⟩

section
variable {w w' : World} {b : Nat} {ts : List ByteArray} {fi n most at_ : Nat}
theorem ring_new (w : World) (most : Nat) (T : TypeId) (h0 : 1 ≤ most) (h1 : most ≤ 60) : RingAt (w.alloc (.cells (List.replicate 60 (Value.string ⟨#[]⟩) ++ [Value.int .i64 0, Value.int .i64 0, Value.int .i64 most, Value.int .i64 0]).toArray T)) w.heap.size (List.replicate 60 ⟨#[]⟩) 0 0 most 0 := by
  have e := (MapKept.heap_alloc w (.cells (List.replicate 60 (Value.string ⟨#[]⟩) ++ [Value.int .i64 0, Value.int .i64 0, Value.int .i64 most, Value.int .i64 0]).toArray T)).1
  refine ⟨by simp, fun i s hs => ?_, ?_, ?_, ?_, ?_, fun i hi => ?_, by omega, by omega, h0, h1, .inr rfl, ⟨_, _, _, e, by simp⟩⟩
  · obtain ⟨hi, he⟩ := List.getElem?_eq_some_iff.1 hs
    simp only [List.length_replicate] at hi
    simp only [List.getElem_replicate] at he
    subst he
    simp only [World.cell?, e]
    rw [if_neg (by simp)]
    rw [List.getElem?_toArray, List.getElem?_append_left (by rw [List.length_replicate]; exact hi), List.getElem?_replicate, if_pos hi]
  · simp only [World.cell?, e]; rfl
  · simp only [World.cell?, e]; rfl
  · simp only [World.cell?, e]; rfl
  · simp only [World.cell?, e]; rfl
  · simp only [World.frozen?, e]
    simp only [Nat.not_lt_zero, decide_false, Bool.and_false]
set_option maxRecDepth 100000 in
set_option maxHeartbeats 1000000 in
theorem knew_ok (most : Nat) (w : World) (h0 : 1 ≤ most) (h1 : most ≤ 60) : Calls Tryz.prog 17 #[.int .i64 most] w fun e w' => e = .returned (.tuple #[.pointer (some ⟨w.heap.size, 0, none⟩), .int .i64 0]) ∧ RingAt w' w.heap.size (List.replicate 60 ⟨#[]⟩) 0 0 most 0 ∧ Below w.heap.size w w' := by
  have g1 : decide ((most : Int) < 1) = false := by simp; omega
  have g2 : decide ((60 : Int) < most) = false := by simp; omega
  go_enter Tryz.func17, Tryz.ntmps17
  go_wp2
  go_ret2
  exact ⟨rfl, ring_new w most _ h0 h1, below1 w _⟩
set_option maxHeartbeats 400000 in
theorem knew_bad (most : Int) (w : World) (h : most < 1 ∨ 60 < most) : Calls Tryz.prog 17 #[.int .i64 most] w fun e w' => e = .returned (.tuple #[.pointer none, .int .i64 2]) ∧ w = w' := by
  rcases h with h | h
  · go_enter Tryz.func17, Tryz.ntmps17
    go_wp2
    go_ret2
    exact ⟨rfl, rfl⟩
  · have h' : 1 ≤ most := by omega
    go_enter Tryz.func17, Tryz.ntmps17
    go_wp2
    go_ret2
    exact ⟨rfl, rfl⟩

/-- The place of a new string; a new string laid. -/
def kFi (fi : Nat) : Nat := (fi + 59) % 60
theorem RingAt.setFi (h : RingAt w b ts fi n most at_) (k : Nat) (hk : k < 60) : RingAt (w.setCell ⟨b, 60, none⟩ (.int .i64 k)) b ts k n most at_ := by
  have hlt : ∀ (i : Nat) (s : ByteArray), ts[i]? = some s → i < 60 := fun i s hs => by have := (List.getElem?_eq_some_iff.1 hs).1; have := h.len; omega
  refine ⟨h.len, fun i s hs => ?_, ?_, ?_, ?_, ?_, fun i hi => by rw [World.frozen?_setCell]; exact h.fz i hi, hk, h.hn, h.hm0, h.hm1, h.hat, h.blk.set _ _⟩
  · rw [World.cell?_setCell_other _ _ _ _ (by have := hlt i s hs; simp <;> omega)]; exact h.tx i s hs
  · exact World.cell?_setCell_same' _ _ _ (by rw [h.c60]; rfl)
  · rw [World.cell?_setCell_other _ _ _ _ (by simp)]; exact h.c61
  · rw [World.cell?_setCell_other _ _ _ _ (by simp)]; exact h.c62
  · rw [World.cell?_setCell_other _ _ _ _ (by simp)]; exact h.c63
theorem RingAt.setN (h : RingAt w b ts fi n most at_) (k : Nat) (hk : k ≤ most) (hat : at_ < k ∨ at_ = 0) : RingAt (w.setCell ⟨b, 61, none⟩ (.int .i64 k)) b ts fi k most at_ := by
  have hlt : ∀ (i : Nat) (s : ByteArray), ts[i]? = some s → i < 60 := fun i s hs => by have := (List.getElem?_eq_some_iff.1 hs).1; have := h.len; omega
  refine ⟨h.len, fun i s hs => ?_, ?_, ?_, ?_, ?_, fun i hi => by rw [World.frozen?_setCell]; exact h.fz i hi, h.hfi, hk, h.hm0, h.hm1, hat, h.blk.set _ _⟩
  · rw [World.cell?_setCell_other _ _ _ _ (by have := hlt i s hs; simp <;> omega)]; exact h.tx i s hs
  · rw [World.cell?_setCell_other _ _ _ _ (by simp)]; exact h.c60
  · exact World.cell?_setCell_same' _ _ _ (by rw [h.c61]; rfl)
  · rw [World.cell?_setCell_other _ _ _ _ (by simp)]; exact h.c62
  · rw [World.cell?_setCell_other _ _ _ _ (by simp)]; exact h.c63
theorem RingAt.setT (h : RingAt w b ts fi n most at_) (k : Nat) (hk : k < 60) (s : ByteArray) : RingAt (w.setCell ⟨b, k, none⟩ (.string s)) b (ts.set k s) fi n most at_ := by
  have hlen := h.len
  obtain ⟨s0, hs0⟩ : ∃ s0, ts[k]? = some s0 := ⟨_, List.getElem?_eq_getElem (by omega)⟩
  refine ⟨by rw [List.length_set]; exact hlen, fun i s' hs => ?_, ?_, ?_, ?_, ?_, fun i hi => by rw [World.frozen?_setCell]; exact h.fz i hi, h.hfi, h.hn, h.hm0, h.hm1, h.hat, h.blk.set _ _⟩
  · rw [List.getElem?_set] at hs
    split at hs
    · rename_i e
      subst e
      rw [if_pos (by omega)] at hs
      cases hs
      exact World.cell?_setCell_same' _ _ _ (by rw [h.tx _ _ hs0]; rfl)
    · rename_i e
      rw [World.cell?_setCell_other _ _ _ _ (by simp <;> omega)]; exact h.tx i s' hs
  · rw [World.cell?_setCell_other _ _ _ _ (by simp <;> omega)]; exact h.c60
  · rw [World.cell?_setCell_other _ _ _ _ (by simp <;> omega)]; exact h.c61
  · rw [World.cell?_setCell_other _ _ _ _ (by simp <;> omega)]; exact h.c62
  · rw [World.cell?_setCell_other _ _ _ _ (by simp <;> omega)]; exact h.c63
end
end Go.Proofs.YtaofcnmajicpcaaGreatDoor
