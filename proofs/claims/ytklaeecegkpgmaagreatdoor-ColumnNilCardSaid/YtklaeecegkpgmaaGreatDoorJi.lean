import Derived.Test.YtklaeecegkpgmaaGreatDoorJa
import Derived.Test.YtklaeecegkpgmaaGreatDoorLayK
import Derived.IntWalk
import Derived.Test.YtklaeecegkpgmaaGreatDoorJh
import Derived.Lib.IndexBytes
/- The tables of unicode/utf8; runes.Valid. -/
namespace Go.Proofs.YtklaeecegkpgmaaGreatDoor
open Go.RowKit
set_option linter.unusedVariables false

/-- unicode/utf8's tables as they are laid, in blocks below N. -/
def Tabs (N : Nat) (w : World) : Prop := Lib.Utf8Tabs (Tryz.laysValid_ren.g 3) (Tryz.laysValid_ren.g 4) w ∧ Tryz.laysValid_ren.g 3 < N ∧ Tryz.laysValid_ren.g 4 < N
theorem Tabs.up {N : Nat} {w w' : World} (h : Tabs N w) (hb : Below w.heap.size w w') : Tabs N w' := ⟨Utf8Tabs_below h.1 hb, h.2⟩
theorem Tabs.only {N : Nat} {S : Nat → Prop} {w w' : World} (h : Tabs N w) (ho : Only S w w') (hs : ∀ k, S k → N ≤ k) : Tabs N w' := by
  obtain ⟨⟨a, b⟩, h3, h4⟩ := h
  have l3 := lt_of_cell (a 0 (by omega))
  have l4 := lt_of_cell (b 0 (by omega)).1
  have e3 := ho.block _ l3 (fun hk => by have := hs _ hk; omega)
  have e4 := ho.block _ l4 (fun hk => by have := hs _ hk; omega)
  exact ⟨⟨fun c hc => (World.cell?_of_block (w := w) (a := ⟨_, c, none⟩) e3).trans (a c hc), fun i hi => ⟨(World.cell?_of_block (w := w) (a := ⟨_, 2 * i, none⟩) e4).trans (b i hi).1, (World.cell?_of_block (w := w) (a := ⟨_, 2 * i + 1, none⟩) e4).trans (b i hi).2⟩⟩, h3, h4⟩
def vld (s : ByteArray) : Bool := Lib.validD s.data.toList
theorem valid_any {N : Nat} (s : ByteArray) (w : World) (hs : s.size ≤ 1000000000) (hT : Tabs N w) : Calls Tryz.prog 62 #[.string s] w fun e w' => e = .returned (.bool (vld s)) ∧ Below w.heap.size w w' := by
  have cV : Calls Tryz.prog 96 #[.string s] w _ := Any.utf8_ValidString Tryz.laysValid s w (by omega) hT.1
  unfold vld
  generalize Lib.validD s.data.toList = V at cV ⊢
  go_enter Tryz.func62, Tryz.ntmps62
  go_wp2_with (go_at_call 96; refine cV.mono ?_; rintro e w' ⟨rfl, hb⟩)
  go_ret
  exact ⟨rfl, hb⟩
end Go.Proofs.YtklaeecegkpgmaaGreatDoor
/- Package copyistref01: point, List, Valid, Len at every string; package runes: Len (how much at most). -/
namespace Go.Proofs.YtklaeecegkpgmaaGreatDoor
open Go.RowKit
set_option linter.unusedVariables false
set_option linter.unusedSimpArgs false
abbrev encI (z : Int) : List Value := [.int .i64 z]
theorem eltI : Elt encI 50 3 1 8 (.int .i64 0) := ⟨Tryz.underlying50, by kernel_rfl, rfl, by omega, fun _ => rfl, fun x u hu => by simp at hu; subst hu; rfl⟩

theorem Calls.cong {P : Program} {f : FuncId} {args : Array Value} {w : World} {Q Q' : Ending → World → Prop} (h : Calls P f args w Q) (e : Q = Q') : Calls P f args w Q' := e ▸ h
theorem PtPost_eq (w : World) {c n c' n' : Nat} (h1 : c = c') (h2 : n = n') : PtPost w c n = PtPost w c' n' := by rw [h1, h2]
theorem size_len (s : ByteArray) : s.data.toList.length = s.size := by simp
/-- Handed back by List: the characters, or none. -/
def ListPost (w : World) (o : Option (List Nat)) (e : Ending) (w' : World) : Prop := Below w.heap.size w w' ∧ match o with
  | some cs => ∃ v, e = .returned (.tuple #[v, .int .i64 0]) ∧ ROwn encI 3 1 w.heap.size w' v (cs.map Int.ofNat)
  | none => e = .returned (.tuple #[.slice none 0 0, .int .i64 5])
def strSz : Value → Nat
  | .string t => t.size
  | _ => 0
theorem ne_of_size {t : ByteArray} (h : 0 < t.size) : t.data.toList ≠ [] := fun e => by
  have := congrArg List.length e
  rw [size_len, List.length_nil] at this
  omega
theorem extract_size (s : ByteArray) (a : Nat) (h : a ≤ s.size) : (s.extract a s.size).size = s.size - a := by simp
theorem vld_chars (s : ByteArray) : vld s = (charsD s.data.toList).isSome := (chars_valid _ _ (Nat.le_refl _)).symm
/-- How many characters: none if the string is not valid. -/
def lenR (s : ByteArray) : Nat := ((charsD s.data.toList).getD []).length
theorem lenR_le (s : ByteArray) : lenR s ≤ s.size := by
  unfold lenR
  cases h : charsD s.data.toList with
  | none => simp
  | some cs =>
    have := chars_len _ _ cs (Nat.le_refl _) h
    rw [size_len] at this
    simpa using this
/-- runes.Len, of a valid string. -/
def rlenG (s : ByteArray) : Nat := if vld s then Lib.runeCount s else 0
theorem rlenG_le (s : ByteArray) : rlenG s ≤ s.size := by
  unfold rlenG
  split
  · exact Lib.runeCount_le s
  · omega
set_option maxHeartbeats 1000000 in
theorem runesLen {N : Nat} (s : ByteArray) (w : World) (hs : s.size ≤ 1000000000) (hT : Tabs N w) : Calls Tryz.prog 28 #[.string s] w fun e w' => e = .returned (.int .i64 (rlenG s)) ∧ Below w.heap.size w w' := by
  have hV := valid_any s w hs hT
  unfold rlenG
  have HV := Lib.hid hV
  clear hV
  cases hv : vld s with
  | true =>
    rw [hv] at HV
    go_enter Tryz.func28, Tryz.ntmps28
    go_wp2_with fail
    refine HV.out.mono ?_
    rintro e w' ⟨rfl, hb⟩
    have hC : Calls Tryz.prog 63 #[.string s] w' _ := Any.utf8_RuneCountInString Tryz.laysCount s w' (by omega)
    go_wp2_with fail
    refine hC.mono ?_
    rintro e w2 ⟨rfl, pos, rfl⟩
    go_wp2_with fail
    go_ret
    exact ⟨ret_int (by simp), up2 hb (below1 _ _)⟩
  | false =>
    rw [hv] at HV
    go_enter Tryz.func28, Tryz.ntmps28
    go_wp2_with fail
    refine HV.out.mono ?_
    rintro e w' ⟨rfl, hb⟩
    go_wp2_with fail
    go_ret
    exact ⟨ret_int (by simp), hb⟩
end Go.Proofs.YtklaeecegkpgmaaGreatDoor
