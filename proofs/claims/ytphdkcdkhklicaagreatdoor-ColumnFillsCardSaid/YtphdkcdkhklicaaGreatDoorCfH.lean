/- A strings.Builder that a call has made. -/
import Derived.Test.YtphdkcdkhklicaaGreatDoorLayB
import Derived.Test.YtphdkcdkhklicaaGreatDoorLayF
import Derived.Test.YtphdkcdkhklicaaGreatDoorZ04
import Derived.Test.YtphdkcdkhklicaaGreatDoorZ01
import Derived.Shelf.Strings.BuilderK
namespace Go.Proofs.YtphdkcdkhklicaaGreatDoor
open Go.RowKit Go.Lib
set_option linter.unusedVariables false
set_option linter.unusedSimpArgs false
theorem wbExtra : Builder.Extra Tryz.prog wbRen where
  sizeBuilder := by kernel_rfl
  liesBuilder := by kernel_rfl
  t5 := Tryz.underlying5
  a5 := Tryz.isAgg5
  z5 := Tryz.sizeOf5
  v5 := Tryz.zeroValue5
  infoByte := by kernel_rfl
  cellsByte := by kernel_rfl
  sizeByte := by kernel_rfl
  neB5 := by decide
theorem bsExtra : Builder.Extra Tryz.prog Tryz.laysBString_ren where
  sizeBuilder := by kernel_rfl
  liesBuilder := by kernel_rfl
  t5 := Tryz.underlying5
  a5 := Tryz.isAgg5
  z5 := Tryz.sizeOf5
  v5 := Tryz.zeroValue5
  infoByte := by kernel_rfl
  cellsByte := by kernel_rfl
  sizeByte := by kernel_rfl
  neB5 := by decide
/-- The builder at block b holds the bytes l. -/
def Bd (B b : Nat) (l : List UInt8) (w : World) : Prop := IsBuilderF 138 5 B b (byteCells l) w
theorem byteCells_app (a b : List UInt8) : byteCells a ++ byteCells b = byteCells (a ++ b) := by unfold byteCells; rw [List.map_append]
section
variable {w w' : World} {B b : Nat} {l : List UInt8}
theorem Bd.made (w : World) : Bd w.heap.size w.heap.size [] (w.alloc (.cells #[.pointer none, .slice none 0 0] 138)) :=
  IsBuilderF.of (.inl ⟨Nat.le_refl _, .slice none 0 0, (MapKept.heap_alloc w _).1, (ROwn.nil (enc := fun x : Value => [x]) _ _), by simp [Value.ownBlock]⟩)
theorem Bd.up (h : Bd B b l w) (hb : Below w.heap.size w w') : Bd B b l w' := by
  have hg : w.grownBy w' none := ⟨hb.os, hb.tape, hb.output, hb.size, fun i hi _ => hb.block i hi⟩
  have hn : ∀ v : Value, v.ownBlock = none ∨ v.ownBlock ≠ none := fun v => by cases v.ownBlock <;> simp
  rcases h with h | h
  · have hl := h.lt
    obtain ⟨h1, v, h2, h3, h4⟩ := h
    exact .inl ⟨h1, v, (hb.block _ hl).trans h2, h3.kept hg (hn v), h4⟩
  · have hl := h.lt
    obtain ⟨h1, v, h2, h3, h4⟩ := h
    exact .inr ⟨h1, v, (hb.block _ hl).trans h2, h3.kept hg (hn v), h4⟩
/-- What a call on a builder leaves as it was. -/
abbrev Kept (b : Nat) (w w' : World) : Prop := OthersKept 5 (some b) w w'
theorem bwrite (h : Bd B b l w) (s : ByteArray) (hlen : l.length + s.size ≤ 1000000000) (hB : B ≤ w.heap.size) :
    Calls Tryz.prog 112 #[.pointer (some ⟨b, 0, none⟩), .string s] w fun e w' => (∃ v, e = .returned v) ∧ Bd B b (l ++ s.data.toList) w' ∧ Below B w w' ∧ Kept b w w' := by
  have q := Any.Builder_WriteString_k laysWriteS repExtra B b (byteCells l) s w h (by unfold byteCells; rw [List.length_map]; omega) hB
  refine q.mono ?_
  rintro e w' ⟨he, h2, h3, h4⟩
  refine ⟨⟨_, he⟩, .inr ?_, h3, h4⟩
  rw [← byteCells_app]; exact h2
theorem bwrite1 (h : Bd B b l w) (c : UInt8) (hlen : l.length + 1 ≤ 1000000000) (hB : B ≤ w.heap.size) :
    Calls Tryz.prog 113 #[.pointer (some ⟨b, 0, none⟩), .int .u8 c.toNat] w fun e w' => (∃ v, e = .returned v) ∧ Bd B b (l ++ [c]) w' ∧ Below B w w' ∧ Kept b w w' := by
  have q := Any.Builder_WriteByte_k laysWriteB wbExtra B b (byteCells l) c.toNat w h (by unfold byteCells; rw [List.length_map]; omega) hB
  refine q.mono ?_
  rintro e w' ⟨he, h2, h3, h4⟩
  refine ⟨⟨_, he⟩, .inr ?_, h3, h4⟩
  rw [← byteCells_app]; exact h2
theorem bstring (h : Bd B b l w) (hB : B ≤ w.heap.size) :
    Calls Tryz.prog 115 #[.pointer (some ⟨b, 0, none⟩)] w fun e w' => e = .returned (.string ⟨l.toArray⟩) ∧ Below B w w' := by
  have q := Any.Builder_String_any_k Tryz.laysBString bsExtra B b l w h hB
  exact q.mono fun e w' ⟨he, h2⟩ => ⟨he, h2.2.1⟩
end
end Go.Proofs.YtphdkcdkhklicaaGreatDoor
