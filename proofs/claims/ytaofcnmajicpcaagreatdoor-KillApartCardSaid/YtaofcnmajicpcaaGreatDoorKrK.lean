/- The reference's ring: Append. -/
import Derived.Test.YtaofcnmajicpcaaGreatDoorKrJ
namespace Go.Proofs.YtaofcnmajicpcaaGreatDoor
open Go.RowKit
set_option linter.unusedVariables false
set_option linter.unusedSimpArgs false
section
variable {w w' : World} {b : Nat} {L : List ByteArray} {most at_ : Nat} {v : Value}
theorem ROwn.setHead {B g c : Nat} {n : Nat} (h : ROwn encS 9 1 B w (.slice (some ⟨g, 0, none⟩) n c) L) (hn : 0 < L.length) (x : ByteArray) :
    ROwn encS 9 1 B (w.setCell ⟨g, 0, none⟩ (.string x)) (.slice (some ⟨g, 0, none⟩) n c) (x :: L.tail) := by
  have hlen : (x :: L.tail).length = L.length := by simp; omega
  rcases h.2 with ⟨e, h0⟩ | ⟨g', cap, cur, e, hb, hg, hnc, hcm, hsz, htk⟩
  · cases e
  · cases e
    refine ⟨by rw [cellsL_length eltS.len], .inr ⟨g, c, cur.setIfInBounds 0 (.string x), by rw [hlen], hb, by simp [World.setCell, Array.getElem?_modify, hg], by omega, hcm, by simpa using hsz, ?_⟩⟩
    rw [hlen, Array.toList_setIfInBounds, List.take_set, htk]
    rcases L with _ | ⟨y, L⟩
    · simp at hn
    · rfl
theorem ROwn.first {B : Nat} (h : ROwn encS 9 1 B w v L) (hn : 0 < L.length) : ∃ g c, v = .slice (some ⟨g, 0, none⟩) L.length c ∧ w.cell? ⟨g, 0, none⟩ = some (.string (L.getD 0 ByteArray.empty)) ∧ w.frozen? ⟨g, 0, none⟩ = false ∧ L.length ≤ c := by
  rcases h.2 with ⟨e, h0⟩ | ⟨g, cap, cur, rfl, hb, hg, hnc, hcm, hsz, htk⟩
  · omega
  · refine ⟨g, cap, rfl, ?_, by simp [World.frozen?, hg], hnc⟩
    rcases L with _ | ⟨y, L⟩
    · simp at hn
    · have : cur[0]? = some (.string y) := by
        rw [← Array.getElem?_toList]
        have h1 := congrArg (·[0]?) htk
        simp only [List.getElem?_take] at h1
        simpa [cellsL] using h1
      simp only [World.cell?, hg]
      simpa using this
end
end Go.Proofs.YtaofcnmajicpcaaGreatDoor
