/- marks.Copy. -/
import Derived.Test.YtlnpjdihdemgmaaMkU
namespace Go.Proofs.Ytlnpjdihdemgmaa
open Go.RowKit Go.Shelf
set_option linter.unusedVariables false
variable {b bm : Nat} {m : List (Int × Mk)} {n : Int} {w : World}

def CopyPost (w : World) (m : List (Int × Mk)) (n : Int) (e : Ending) (w' : World) : Prop :=
  ∃ b' bm', e = .returned (.pointer (some ⟨b', 0, none⟩)) ∧ MarksAt w' b' bm' m n ∧ w.heap.size ≤ b' ∧ w.heap.size ≤ bm' ∧ Below w.heap.size w w'

theorem copied (h : MarksAt w b bm m n) {es : Array MapEntry} {clock : Nat} (hb : w.heap[bm]? = some (.map es clock)) (W : World) (hW : W.heap = ((w.alloc (.map es clock)).alloc (.cells #[.map (some w.heap.size), .int .i64 n] 62)).heap) (hB : Below w.heap.size w W) :
    CopyPost w m n (.returned (.pointer (some ⟨w.heap.size + 1, 0, none⟩))) W := by
  have h1 := MapKept.heap_alloc w (.map es clock)
  have h2 := MapKept.heap_alloc (w.alloc (.map es clock)) (.cells #[.map (some w.heap.size), .int .i64 n] 62)
  have hsz : (w.alloc (.map es clock)).heap.size = w.heap.size + 1 := by simp
  rw [hsz, ← hW] at h2
  refine ⟨w.heap.size + 1, w.heap.size, rfl, ⟨?_, ?_, ?_, ?_, h.ids, h.ats⟩, by omega, by omega, hB⟩
  · simp only [World.cell?, h2.1]; rfl
  · simp only [World.cell?, h2.1]; rfl
  · simp only [World.frozen?, h2.1]; rfl
  · obtain ⟨l, clock', him, rfl⟩ := h.im
    have e := hb.symm.trans him.block
    simp only [Option.some.injEq, Obj.map.injEq] at e
    obtain ⟨rfl, rfl⟩ := e
    exact ⟨l, clock, ⟨(h2.2 _ (by omega)).trans h1.1, him.keys, him.borns, him.old⟩, rfl⟩

set_option maxRecDepth 100000 in
set_option maxHeartbeats 1000000 in
theorem copy_any (h : MarksAt w b bm m n) : Calls Try.prog 33 #[.pointer (some ⟨b, 0, none⟩)] w (CopyPost w m n) := by
  obtain ⟨es, clock, hblk⟩ : ∃ es clock, w.heap[bm]? = some (.map es clock) := by
    obtain ⟨l, clock, h1, _⟩ := h.im
    exact ⟨_, _, h1.block⟩
  have HC := Lib.hid (copied h hblk)
  have HB := Lib.hid hblk
  have c0 := h.c0
  have c1 := h.c1
  have hblt := h.lt
  clear hblk
  go_enter Try.func33, Try.ntmps33
  go_wp2_with fail
  refine (made_any h).mono ?_
  rintro e w' ⟨rfl, rfl⟩
  clear h
  go_wp2_with fail
  go_region_with (go_at_call 54; refine (clone_call (es := es) (clock := clock) _ (by exact HB.out)).mono ?_; rintro e w' ⟨rfl, rfl⟩)
  all_goals
    go_wp2_with fail
    go_ret
    exact HC.out _ rfl (have hB := ((Below.refl w.heap.size w).alloc (Nat.le_refl _) (.map es clock)).alloc (by simp) (.cells #[.map (some w.heap.size), .int .i64 n] 62); ⟨hB.os, hB.tape, hB.output, hB.size, hB.block⟩)
end Go.Proofs.Ytlnpjdihdemgmaa
