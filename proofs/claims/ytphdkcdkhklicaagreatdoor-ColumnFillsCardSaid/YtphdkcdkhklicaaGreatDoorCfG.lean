/- package column: width. -/
import Derived.Test.YtphdkcdkhklicaaGreatDoorCfD
import Derived.Test.YtphdkcdkhklicaaGreatDoorZ18
import Derived.Test.YtphdkcdkhklicaaGreatDoorZ03
import Derived.Test.YtphdkcdkhklicaaGreatDoorZ02
namespace Go.Proofs.YtphdkcdkhklicaaGreatDoor
open Go.RowKit Go.Lib
set_option linter.unusedVariables false
set_option linter.unusedSimpArgs false
theorem widthC_le {tab : Nat} (ht : tab ≤ 64) : ∀ (cs : List Nat) (col : Nat), widthC tab widN col cs ≤ col + 64 * cs.length
  | [], col => by unfold widthC; simp
  | c :: cs, col => by
    have h1 := widthC_le ht cs (afterN widN tab col c)
    have h2 := afterN_le (wid := widN) widN_le ht col c
    show widthC tab widN (afterN widN tab col c) cs ≤ _
    rw [List.length_cons]; omega
section
variable {w w' : World}
set_option maxRecDepth 100000 in
set_option maxHeartbeats 2000000 in
theorem cwidth_ok {s : ByteArray} {cs : List Nat} (h : charsD s.data.toList = some cs) (hs : s.size ≤ 100000) (col tab : Nat) (hcol : col ≤ 10000000) (ht1 : 1 ≤ tab) (ht2 : tab ≤ 64) (w : World) :
    Calls Tryz.prog 111 #[.int .i64 col, .string s, .int .i64 tab] w fun e w' => e = .returned (.int .i64 (widthC tab widN col cs : Nat)) ∧ Below w.heap.size w w' := by
  have hlen : cs.length ≤ 100000 := by
    have := chars_len _ _ _ (Nat.le_refl _) h
    rw [size_len] at this; omega
  have HCS := Lib.hid h
  have HT := Lib.hid (⟨ht1, ht2⟩ : _ ∧ _)
  obtain ⟨R, hR⟩ : ∃ R, R = widthC tab widN col cs := ⟨_, rfl⟩
  rw [← hR]
  have HR := Lib.hid hR
  clear h ht1 ht2 hR
  go_enter Tryz.func111, Tryz.ntmps111
  go_wp2_with fail
  have hit := w.iter_heap s 0
  have hsz : (w.iter s 0).heap.size = w.heap.size + 1 := by simp [World.iter]
  have HBi := Lib.hid (show Below w.heap.size w (w.iter s 0) from below1 w _)
  generalize w.iter s 0 = W at *
  go_loopw [0, 8] (fun va vb wr => ∃ (p : Nat) (pre rest : List Nat), p ≤ s.size ∧ cs = pre ++ rest ∧ charsD (s.data.toList.drop p) = some rest ∧ wr.heap[w.heap.size]? = some (.stringIter s p) ∧ va = .int .i64 (widthC tab widN col pre : Nat) ∧ Below w.heap.size w wr ∧ w.heap.size + 1 ≤ wr.heap.size) (fun _ _ wr => s.size - wr.iterPos w.heap.size)
  case atStart => exact ⟨0, [], cs, Nat.zero_le _, rfl, by simpa using HCS.out, hit, rfl, HBi.out, by omega⟩
  case round =>
    obtain ⟨p, pre, rest, hp, hcs, hrest, hit, rfl, hbel, hsz2⟩ := hrel
    clear hsz
    by_cases hlt : p < s.size
    · obtain ⟨c, rest', hrc, hd1, hd2, hd3, hd4, hc⟩ := decode_step hlt hrest
      subst hrc
      have hnx := fun ty => Lib.run_next_any_at (P := Tryz.prog) wr w.heap.size s p ty hit hlt
      rw [hd1] at hnx
      have hit1 := Lib.iterAt_heap wr w.heap.size s p (p + (Utf8.decode s p).2) hit
      have hoth := fun j (hj : j ≠ w.heap.size) => Lib.iterAt_other wr w.heap.size j s (p + (Utf8.decode s p).2) hj
      have hsz1 := Lib.iterAt_size wr w.heap.size s (p + (Utf8.decode s p).2)
      have hip : (wr.iterPos w.heap.size) = p := iterPos_of hit
      rw [hip]
      have hpp : p < p + (Utf8.decode s p).2 := by omega
      have hbel1 : Below w.heap.size w (wr.iterAt w.heap.size s (p + (Utf8.decode s p).2)) := hbel.trans ⟨rfl, rfl, rfl, by rw [hsz1]; exact Nat.le_refl _, fun j hj => hoth j (by omega)⟩
      clear hd1 hd2
      generalize p + (Utf8.decode s p).2 = p' at *
      generalize wr.iterAt w.heap.size s p' = w2 at *
      have hsz1' : w.heap.size + 1 ≤ w2.heap.size := by rw [hsz1]; exact hsz2
      clear hsz1
      have s1 : IntKind.i64.wrap (c : Int) = (c : Int) := IntWalk.i64_in _ (by unfold isN at hc; omega)
      have hl : pre.length ≤ cs.length := by rw [hcs]; simp
      have hwl := widthC_le HT.out.2 pre col
      have hstep : widthC tab widN col (pre ++ [c]) = afterN widN tab (widthC tab widN col pre) c := by rw [widthC_app]; rfl
      have HA := Lib.hid (after_ok (widthC tab widN col pre) c tab hc HT.out.1 HT.out.2 (by omega) w2)
      rw [← hstep] at HA
      have HNX := Lib.hid hnx
      have HC := Lib.hid (⟨hcs, hd4, hd3⟩ : _ ∧ _ ∧ _)
      have HB1 := Lib.hid hbel1
      have HI1 := Lib.hid hit1
      obtain ⟨K, hK⟩ : ∃ K, K = widthC tab widN col (pre ++ [c]) := ⟨_, rfl⟩
      rw [← hK] at HA
      have HKK := Lib.hid hK
      generalize widthC tab widN col pre = G at *
      clear hstep hwl hcs hd4 hd3 hbel1 hit1 hoth hK hl hc hrest hbel
      go_wp2_with fail
      refine HA.out.mono ?_
      rintro e w3 ⟨rfl, hb3⟩
      have hit2 := (hb3.block w.heap.size (by omega)).trans HI1.out
      have HI2 := Lib.hid hit2
      have B3 := Lib.hid (HB1.out.trans (hb3.mono (by omega)))
      have z3 := hb3.size
      clear hit2 hb3
      go_wp2_with fail
      go_roundw
      case rel => exact ⟨p', pre ++ [c], rest', HC.out.2.2, by rw [HC.out.1, List.append_assoc]; rfl, HC.out.2.1, HI2.out, by rw [HKK.out], B3.out, by omega⟩
      case measure => rw [iterPos_of HI2.out]; omega
    · have hp2 : p = s.size := by omega
      have hrn : rest = [] := by
        have : s.data.toList.drop p = [] := List.drop_eq_nil_of_le (by rw [hp2]; simp)
        rw [this, charsD_nil] at hrest
        cases hrest; rfl
      subst hrn
      rw [List.append_nil] at hcs
      have hnx := fun ty => Lib.run_next_end_at (P := Tryz.prog) wr w.heap.size s p ty hit hlt
      rw [← hcs, ← HR.out]
      go_wp2_with fail
      go_ret
      exact ⟨rfl, hbel⟩
end
end Go.Proofs.YtphdkcdkhklicaaGreatDoor
