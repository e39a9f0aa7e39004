/- Package copyistref01: point, List, Valid, Len at every string; package runes: Len (how much at most). -/
import Derived.Test.YtaofcnmajicpcaaGreatDoorKrE
import Derived.Test.YtaofcnmajicpcaaGreatDoorKrB
import Derived.Test.YtaofcnmajicpcaaGreatDoorSeg
import Derived.Lib.IndexBytes
namespace Go.Proofs.YtaofcnmajicpcaaGreatDoor
open Go.RowKit
set_option linter.unusedVariables false
set_option linter.unusedSimpArgs false
abbrev encI (z : Int) : List Value := [.int .i64 z]
theorem eltI : Elt encI 46 3 1 8 (.int .i64 0) := ⟨Tryz.underlying46, by kernel_rfl, rfl, by omega, fun _ => rfl, fun x u hu => by simp at hu; subst hu; rfl⟩

theorem Calls.cong {P : Program} {f : FuncId} {args : Array Value} {w : World} {Q Q' : Ending → World → Prop} (h : Calls P f args w Q) (e : Q = Q') : Calls P f args w Q' := e ▸ h
theorem PtPost_eq (w : World) {c n c' n' : Nat} (h1 : c = c') (h2 : n = n') : PtPost w c n = PtPost w c' n' := by rw [h1, h2]
theorem size_len (s : ByteArray) : s.data.toList.length = s.size := by simp
/-- Handed back by List: the characters, or none. -/
def ListPost (w : World) (o : Option (List Nat)) (e : Ending) (w' : World) : Prop := Below w.heap.size w w' ∧ match o with
  | some cs => ∃ v, e = .returned (.tuple #[v, .int .i64 0]) ∧ ROwn encI 3 1 w.heap.size w' v (cs.map Int.ofNat)
  | none => e = .returned (.tuple #[.slice none 0 0, .int .i64 5])
def strSz : Value → Nat
  | .string t => t.size
  | _ => 0
theorem ne_of_size {t : ByteArray} (h : 0 < t.size) : t.data.toList ≠ [] := fun e => by
  have := congrArg List.length e
  rw [size_len, List.length_nil] at this
  omega
theorem extract_size (s : ByteArray) (a : Nat) (h : a ≤ s.size) : (s.extract a s.size).size = s.size - a := by simp
theorem vld_chars (s : ByteArray) : vld s = (charsD s.data.toList).isSome := (chars_valid _ _ (Nat.le_refl _)).symm
/-- How many characters: none if the string is not valid. -/
def lenR (s : ByteArray) : Nat := ((charsD s.data.toList).getD []).length
theorem lenR_le (s : ByteArray) : lenR s ≤ s.size := by
  unfold lenR
  cases h : charsD s.data.toList with
  | none => simp
  | some cs =>
    have := chars_len _ _ cs (Nat.le_refl _) h
    rw [size_len] at this
    simpa using this
/-- runes.Len, of a valid string. -/
def rlenG (s : ByteArray) : Nat := if vld s then Lib.runeCount s else 0
theorem rlenG_le (s : ByteArray) : rlenG s ≤ s.size := by
  unfold rlenG
  split
  · exact Lib.runeCount_le s
  · omega
set_option maxHeartbeats 1000000 in
theorem runesLen {N : Nat} (s : ByteArray) (w : World) (hs : s.size ≤ 1000000000) (hT : Tabs N w) : Calls Tryz.prog 50 #[.string s] w fun e w' => e = .returned (.int .i64 (rlenG s)) ∧ Below w.heap.size w w' := by
  have hV := valid_any s w hs hT
  unfold rlenG
  have HV := Lib.hid hV
  clear hV
  cases hv : vld s with
  | true =>
    rw [hv] at HV
    go_enter Tryz.func50, Tryz.ntmps50
    go_wp2_with fail
    refine HV.out.mono ?_
    rintro e w' ⟨rfl, hb⟩
    have hC : Calls Tryz.prog 86 #[.string s] w' _ := Any.utf8_RuneCountInString Tryz.laysCount s w' (by omega)
    go_wp2_with fail
    refine hC.mono ?_
    rintro e w2 ⟨rfl, pos, rfl⟩
    go_wp2_with fail
    go_ret
    exact ⟨ret_int (by simp), up2 hb (below1 _ _)⟩
  | false =>
    rw [hv] at HV
    go_enter Tryz.func50, Tryz.ntmps50
    go_wp2_with fail
    refine HV.out.mono ?_
    rintro e w' ⟨rfl, hb⟩
    go_wp2_with fail
    go_ret
    exact ⟨ret_int (by simp), hb⟩
end Go.Proofs.YtaofcnmajicpcaaGreatDoor
