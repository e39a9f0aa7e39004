/- copyistlaw25.KillApart: a ring and registers side by side. -/
import Derived.Test.YtaofcnmajicpcaaGreatDoorKaB
import Derived.Test.YtaofcnmajicpcaaGreatDoorOwn
namespace Go.Proofs.YtaofcnmajicpcaaGreatDoor
open Go.RowKit
set_option linter.unusedVariables false
set_option linter.unusedSimpArgs false
section
variable {w w' : World} {b bm N : Nat} {m : List (Int × Reg)} {v : Value}
theorem GetPost.con {o o' : Option Con} {e : Ending} (h : GetPost w o e w') (he : o = o') : GetPost w o' e w' := he ▸ h
theorem get_con (h : RegsAt w b bm m) (c : Int) : Calls Tryz.prog 8 #[.pointer (some ⟨b, 0, none⟩), .int .i64 c] w (GetPost w (lookM (conM m) c)) := by
  rw [lookM_con]; exact get_any h c
theorem con_rows (h : RegsAt w b bm m) (c : Int) : ((lookM (conM m) c).getD zeroC).rows.length ≤ 1000000 := by
  rw [lookM_con]
  cases hx : lookM m c with
  | none => simp [zeroC]
  | some x => exact (h.ok _ (lookM_mem hx)).l
theorem Only.cell {S : Nat → Prop} {a b : World} (h : Only S a b) {k o : Nat} (hk : k < a.heap.size) (hs : ¬ S k) : b.cell? ⟨k, o, none⟩ = a.cell? ⟨k, o, none⟩ := World.cell?_of_block (w := a) (a := ⟨k, o, none⟩) (h.block k hk hs)
theorem Only.fz {S : Nat → Prop} {a b : World} (h : Only S a b) {k o : Nat} (hk : k < a.heap.size) (hs : ¬ S k) : b.frozen? ⟨k, o, none⟩ = a.frozen? ⟨k, o, none⟩ := World.frozen?_of_block (w := a) (a := ⟨k, o, none⟩) (h.block k hk hs)
theorem RegIn.fresh {S : Nat → Prop} {r : Reg} (h : RegIn w r) (ho : Only S w w') {n : Nat} (hf : ∀ g, regBlk r g → n ≤ g) (hs : ∀ g, S g → g < n) : RegIn w' r := h.only ho (fun g hg e => by have := hf g hg; have := hs g e; omega)
theorem bne_self (b : Bool) : (b != b) = false := by cases b <;> rfl
theorem callM_len (mc : List (Int × Con)) (a : CallE) : (callM mc a).length ≤ mc.length + 1 := by
  unfold callM
  split
  · unfold setM
    split
    · rw [length_put]; split <;> omega
    · omega
  split
  · unfold delM; exact Nat.le_trans (List.length_filter_le _ _) (by omega)
  · unfold addM
    split
    · omega
    · split
      · rw [length_put]; split <;> omega
      · omega
/-- The characters in order. -/
def keysOf (mc : List (Int × Con)) : List Int := (mc.map (·.1)).mergeSort (fun x y => decide (x ≤ y))
theorem conM_keys (m : List (Int × Reg)) : (conM m).map (·.1) = m.map (·.1) := by unfold conM; rw [List.map_map]; rfl
theorem keysOf_perm (m : List (Int × Reg)) : (m.map (·.1)).Perm (keysOf (conM m)) := by
  unfold keysOf; rw [conM_keys]; exact (List.mergeSort_perm _ _).symm
theorem keysOf_asc (m : List (Int × Reg)) (hn : (m.map (·.1)).Nodup) : (keysOf (conM m)).Pairwise (· < ·) := by
  unfold keysOf
  rw [conM_keys]
  have h1 := List.pairwise_mergeSort (le := fun x y : Int => decide (x ≤ y)) (fun a b c h1 h2 => by simp at h1 h2 ⊢; omega) (fun a b => by simp; omega) (m.map (·.1))
  have h2 : ((m.map (·.1)).mergeSort (fun x y => decide (x ≤ y))).Nodup := (List.mergeSort_perm _ _).nodup_iff.2 hn
  have h3 := h1.and h2
  exact h3.imp (fun {a b} h => by have := h.1; have := h.2; simp at *; omega)
theorem names_of (h : RegsAt w b bm m) (hl : m.length ≤ 1000000) : Calls Tryz.prog 13 #[.pointer (some ⟨b, 0, none⟩)] w (IsPost w (keysOf (conM m))) :=
  names_any h hl (keysOf_perm m) (keysOf_asc m h.im.nodup)
/-- A ring at br, registers at b and bm; their blocks lie in B .. X, the rows' blocks behind. -/
structure Ap (B X : Nat) (w : World) (br : Nat) (L : List ByteArray) (at_ b bm : Nat) (m : List (Int × Reg)) : Prop where
  r : Ring w br L 5 at_
  s : RegsAt w b bm m
  n1 : br ≠ b
  n2 : br ≠ bm
  b1 : B ≤ br
  b2 : B ≤ bm
  x1 : br < X
  x2 : b < X
  x3 : bm < X
  x4 : X ≤ w.heap.size
  f : ∀ g, Foot m g → X ≤ g
variable {B X Y br at_ bt bu bmu att : Nat} {L Lt : List ByteArray} {mu m' : List (Int × Reg)}
theorem RegsAt.other {S : Nat → Prop} (h : RegsAt w b bm m) (ho : Only S w w') (h1 : ¬ S b) (h2 : ¬ S bm) (h3 : ∀ g, Foot m g → ¬ S g) : RegsAt w' b bm m := h.only ho h1 h2 (fun p hp hl g o e => h3 g ⟨p, hp, hl, o, e⟩)
theorem Ap.up (h : Ap B X w br L at_ b bm m) (hb : Below w.heap.size w w') : Ap B X w' br L at_ b bm m := ⟨h.r.up hb, h.s.up hb, h.n1, h.n2, h.b1, h.b2, h.x1, h.x2, h.x3, Nat.le_trans h.x4 hb.size, h.f⟩
theorem Ap.ring (h : Ap B X w br L at_ b bm m) {L' : List ByteArray} {a' : Nat} (hr : Ring w' br L' 5 a') (ho : Only (· = br) w w') : Ap B X w' br L' a' b bm m :=
  ⟨hr, h.s.other ho (fun e => h.n1 e.symm) (fun e => h.n2 e.symm) (fun g hg e => by have := h.f g hg; have := h.x1; omega), h.n1, h.n2, h.b1, h.b2, h.x1, h.x2, h.x3, Nat.le_trans h.x4 ho.size, h.f⟩
theorem Ap.regs (h : Ap B X w br L at_ b bm m) (hs : RegsAt w' b bm m') (ho : Only (· = bm) w w') (hf : ∀ g, Foot m' g → Foot m g ∨ w.heap.size ≤ g) : Ap B X w' br L at_ b bm m' :=
  ⟨h.r.kept (ho.block br h.r.lt h.n2), hs, h.n1, h.n2, h.b1, h.b2, h.x1, h.x2, h.x3, Nat.le_trans h.x4 ho.size, fun g hg => (hf g hg).elim (h.f g) (Nat.le_trans h.x4)⟩
/-- What another's blocks leave. -/
theorem Ap.other {S : Nat → Prop} (h : Ap B X w br L at_ b bm m) (ho : Only S w w') {Y : Nat} (hx : X ≤ Y) (hs : ∀ g, S g → Y ≤ g) (hf : ∀ g, Foot m g → g < Y) : Ap B X w' br L at_ b bm m :=
  ⟨h.r.kept (ho.block br h.r.lt (fun e => by have := hs _ e; have := h.x1; omega)), h.s.other ho (fun e => by have := hs _ e; have := h.x2; omega) (fun e => by have := hs _ e; have := h.x3; omega) (fun g hg e => by have := hs _ e; have := hf g hg; omega),
   h.n1, h.n2, h.b1, h.b2, h.x1, h.x2, h.x3, Nat.le_trans h.x4 ho.size, h.f⟩
end
end Go.Proofs.YtaofcnmajicpcaaGreatDoor
