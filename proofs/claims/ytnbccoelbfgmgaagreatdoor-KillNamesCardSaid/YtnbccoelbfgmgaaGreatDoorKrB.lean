import Derived.Test.YtnbccoelbfgmgaaGreatDoorZ00
import Derived.Test.YtnbccoelbfgmgaaGreatDoorLayK
import Derived.IntWalk
/- The tables of unicode/utf8; runes.Valid. -/
namespace Go.Proofs.YtnbccoelbfgmgaaGreatDoor
open Go.RowKit
set_option linter.unusedVariables false

/-- unicode/utf8's tables as they are laid, in blocks below N. -/
def Tabs (N : Nat) (w : World) : Prop := Lib.Utf8Tabs (Tryz.laysValid_ren.g 3) (Tryz.laysValid_ren.g 4) w ∧ Tryz.laysValid_ren.g 3 < N ∧ Tryz.laysValid_ren.g 4 < N
theorem Tabs.up {N : Nat} {w w' : World} (h : Tabs N w) (hb : Below w.heap.size w w') : Tabs N w' := ⟨Utf8Tabs_below h.1 hb, h.2⟩
theorem Tabs.only {N : Nat} {S : Nat → Prop} {w w' : World} (h : Tabs N w) (ho : Only S w w') (hs : ∀ k, S k → N ≤ k) : Tabs N w' := by
  obtain ⟨⟨a, b⟩, h3, h4⟩ := h
  have l3 := lt_of_cell (a 0 (by omega))
  have l4 := lt_of_cell (b 0 (by omega)).1
  have e3 := ho.block _ l3 (fun hk => by have := hs _ hk; omega)
  have e4 := ho.block _ l4 (fun hk => by have := hs _ hk; omega)
  exact ⟨⟨fun c hc => (World.cell?_of_block (w := w) (a := ⟨_, c, none⟩) e3).trans (a c hc), fun i hi => ⟨(World.cell?_of_block (w := w) (a := ⟨_, 2 * i, none⟩) e4).trans (b i hi).1, (World.cell?_of_block (w := w) (a := ⟨_, 2 * i + 1, none⟩) e4).trans (b i hi).2⟩⟩, h3, h4⟩
def vld (s : ByteArray) : Bool := Lib.validD s.data.toList
theorem valid_any {N : Nat} (s : ByteArray) (w : World) (hs : s.size ≤ 1000000000) (hT : Tabs N w) : Calls Tryz.prog 37 #[.string s] w fun e w' => e = .returned (.bool (vld s)) ∧ Below w.heap.size w w' := by
  have cV : Calls Tryz.prog 77 #[.string s] w _ := Any.utf8_ValidString Tryz.laysValid s w (by omega) hT.1
  unfold vld
  generalize Lib.validD s.data.toList = V at cV ⊢
  go_enter Tryz.func37, Tryz.ntmps37
  go_wp2_with (go_at_call 77; refine cV.mono ?_; rintro e w' ⟨rfl, hb⟩)
  go_ret
  exact ⟨rfl, hb⟩
end Go.Proofs.YtnbccoelbfgmgaaGreatDoor
