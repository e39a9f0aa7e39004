import Derived.Test.YtklaeecegkpgmaaGreatDoorFsO
/- Package buffer: Insert, Boundary, Size, Narrow. -/
namespace Go.Proofs.YtklaeecegkpgmaaGreatDoor
open Go.RowKit
set_option linter.unusedVariables false
set_option linter.unusedSimpArgs false
section
variable {w w' : World} {b g : Nat} {S : BS} {cs : List Nat}
set_option maxHeartbeats 1000000 in
theorem Insert_ok {N b t g l mm m p o : Nat} {lock pr ev : Int} (hT : Tabs N w) (hR : Rules N w) (h : Fr w N b t g l mm m p o lock pr ev) (s : ByteArray) (hs : s.size ≤ 10000) (hv : (charsD s.data.toList).isSome = true) :
    Calls Tryz.prog 41 #[pAt b, .string s] w fun r w' => r = .returned (.int .i64 0) ∧ Only (fun k => k = b ∨ k = l ∨ k = t ∨ k = p) w w' ∧
      BufB w' b (aftS t m p o l lock (chrs s).length (decide ((chrs s).length = 0))) ∧ (∃ g', g ≤ g' ∧ g' ≠ b ∧ g' ≠ l ∧ GapR w' t g' (chrs s)) ∧ LogF w' l := by
  have HI := Lib.hid (insert_ok hT hR h s hs hv)
  clear hT hR h hs hv
  go_enter Tryz.func41, Tryz.ntmps41
  go_wp2_with fail
  refine HI.out.mono ?_
  rintro r w' ⟨rfl, h1, h2⟩
  have H2 := Lib.hid h2
  clear h2
  go_wp2_with fail
  go_ret
  exact ⟨rfl, h1, H2.out⟩
set_option maxHeartbeats 1000000 in
theorem bBoundary_ok (h : BufB w b S) (hlg : S.logs = true) (hL : LogF w S.l) (hbl : b ≠ S.l) : Calls Tryz.prog 42 #[pAt b] w fun r w' => r = .returned (.int .i64 0) ∧ Only (fun k => k = b ∨ k = S.l) w w' ∧ BufB w' b { S with empty := true } := by
  have c14 : w.cell? ⟨b, 14, none⟩ = some (.bool true) := by rw [← hlg]; exact h.cell (j := 14) rfl
  have c13 := h.cell (j := 13) rfl
  have HN := Lib.hid (bnoneB h)
  have HL := Lib.hid (ubound_ok hL)
  have H := Lib.hid h
  clear h hL
  go_enter Tryz.func42, Tryz.ntmps42
  go_wp2_with fail
  refine HN.out.mono ?_
  rintro r w1 ⟨rfl, rfl⟩
  go_wp2_with fail
  refine HL.out.mono ?_
  rintro r w1 ⟨rfl, ho⟩
  have hk := H.out.only ho hbl
  have q15 := hk.cell (j := 15) rfl
  have f15 := hk.fz 15
  have HK := Lib.hid hk
  clear hk
  go_wp2_with fail
  go_ret
  exact ⟨rfl, (ho.mono (T := fun k => k = b ∨ k = S.l) (fun k hk => .inr hk)).setCell (p := ⟨b, 15, none⟩) (.inl rfl) _, HK.out.set (j := 15) (by simp) (.bool true)⟩
/-! ### Narrow -/
def mayB (n : Nat) (x y : Int) : Bool := decide (1 ≤ x) && decide (x ≤ y) && decide (y ≤ (n : Int) + 1)
end
end Go.Proofs.YtklaeecegkpgmaaGreatDoor
