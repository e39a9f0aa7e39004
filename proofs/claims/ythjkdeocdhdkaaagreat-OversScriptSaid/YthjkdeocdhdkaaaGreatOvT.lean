/- Overlays: rank. -/
import Derived.Test.YthjkdeocdhdkaaaGreatOvS
namespace Go.Proofs.YthjkdeocdhdkaaaGreat
open Go.RowKit
set_option linter.unusedVariables false
set_option linter.unusedSimpArgs false
section
variable {w w' : World} {x : OverE} {b : Nat}
def rankI (pr : Int) (ps : List PropE) : Int := match valP ps pr with | some (k, n) => if k = 0 then n else 0 | none => 0
set_option maxRecDepth 100000 in
set_option maxHeartbeats 1000000 in
theorem rank_any (pr : Int) (hc : w.cell? ⟨b, 0, none⟩ = some (.int .i64 pr)) (hx : OverIn w x) (hs : SortedP x.ps) (hl : x.ps.length ≤ 1000000) :
    Calls Tryz.prog 75 #[.pointer (some ⟨b, 0, none⟩), .pointer (some ⟨x.g, 0, none⟩)] w fun e w' => e = .returned (.int .i64 (rankI pr x.ps)) ∧ BelD w.heap.size w w' := by
  have HVA := Lib.hid (value_anyD hx hs pr hl)
  unfold rankI
  generalize valP x.ps pr = o at *
  clear hx hs hl
  rcases o with _ | ⟨k, n⟩
  · simp only [wordV] at HVA ⊢
    go_enter Tryz.func75, Tryz.ntmps75
    go_wp2_with fail
    refine HVA.out.mono ?_
    rintro e w1 ⟨rfl, hb⟩
    go_wp2_with fail
    go_ret
    exact ⟨rfl, up2D hb (below1D _ _)⟩
  · simp only [wordV] at HVA ⊢
    by_cases hk : k = 0
    · subst hk
      rw [if_pos rfl]
      go_enter Tryz.func75, Tryz.ntmps75
      go_wp2_with fail
      refine HVA.out.mono ?_
      rintro e w1 ⟨rfl, hb⟩
      go_wp2_with fail
      go_ret
      exact ⟨rfl, up2D hb (below1D _ _)⟩
    · have d1 : (k == 0) = false := by simpa using hk
      rw [if_neg hk]
      clear hk
      go_enter Tryz.func75, Tryz.ntmps75
      go_wp2_with fail
      refine HVA.out.mono ?_
      rintro e w1 ⟨rfl, hb⟩
      go_wp2_with fail
      go_ret
      exact ⟨rfl, up2D hb (below1D _ _)⟩
end
end Go.Proofs.YthjkdeocdhdkaaaGreat
