/- package column: rows (its iterator), and the closure of FillText. -/
import Derived.Test.YtphdkcdkhklicaaGreatDoorCfM
import Derived.Test.YtphdkcdkhklicaaGreatDoorCfK
import Derived.Test.YtphdkcdkhklicaaGreatDoorRgB
import Derived.Test.YtphdkcdkhklicaaGreatDoorZ01
import Derived.Test.YtphdkcdkhklicaaGreatDoorZ11
namespace Go.Proofs.YtphdkcdkhklicaaGreatDoor
open Go.RowKit Go.Shelf Go.Lib
set_option linter.unusedVariables false
set_option linter.unusedSimpArgs false
section
attribute [local go_sem] Oper.semAt_some
variable {w w' : World}
theorem crows_ok (s : ByteArray) (w : World) : Calls Tryz.prog 67 #[.string s] w fun e w' => e = .returned (.func (.func 116) #[] #[.pointer (some ⟨w.heap.size, 0, none⟩)]) ∧ w' = w.alloc (.cells #[.string s] 9) := by
  go_enter Tryz.func67, Tryz.ntmps67
  go_wp2_with fail
  go_ret
  exact ⟨rfl, rfl⟩
/-- How long the string in a box is. -/
def boxLen (B : Nat) (w : World) : Nat := match w.cell? ⟨B, 0, none⟩ with | some (.string t) => t.size | _ => 0
theorem boxLen_of {B : Nat} {w : World} {t : ByteArray} (h : Blk w B 9 #[.string t]) : boxLen B w = t.size := by
  unfold boxLen; rw [h.cell (j := 0) (v := .string t) rfl]
abbrev encRw (r : List Nat) : Array Value := #[.string (encS r)]
set_option maxRecDepth 100000 in
set_option maxHeartbeats 4000000 in
/-- The iterator hands on the rows. -/
theorem rows1_box (n : Nat) {s : ByteArray} {cs : List Nat} (h : charsD s.data.toList = some cs) (hs : s.size ≤ 1000000) (Bs : Nat) (w : World) (hb : Blk w Bs 9 #[.string s]) :
    SeqBox Fence.wide n Tryz.prog 116 #[.pointer (some ⟨Bs, 0, none⟩)] encRw Bs (rowsC cs) w := fun l J W hW hJ hJs hY h0 => by
  have hb0 := hb.up hW
  have HY := Lib.hid hY
  have HC := Lib.hid h
  clear hY hb h
  refine callsIn_of_wp Tryz.func116 rfl trivial ?_ rfl
  simp only [Tryz.ntmps116, List.size_toArray, List.length_cons, List.length_nil, Nat.reduceAdd, Nat.reduceSub, Array.replicate_succ, Array.replicate_zero, List.push_toArray, List.append_toArray, List.nil_append, List.cons_append]
  gi_wp2
  gi_loopw [] (fun wr => ∃ (pre : List (List Nat)) (t : ByteArray) (rc : List Nat), J pre wr ∧ rowsC cs = pre ++ rowsC rc ∧ charsD t.data.toList = some rc ∧ t.size ≤ 1000000 ∧ Blk wr Bs 9 #[.string t]) (fun wr => boxLen Bs wr)
  case atStart => exact ⟨[], s, cs, h0, rfl, HC.out, hs, hb0⟩
  case round =>
    obtain ⟨pre, t, rc, hj, hr, hc, ht, hbx⟩ := hrel
    have c0 := hbx.cell (j := 0) rfl
    by_cases hlt : 0 < t.size
    · obtain ⟨r, rc', k, h1, h2, h3, h4, h5, h6⟩ := first_row hc hlt
      have d1 : decide ((0 : Int) < (t.size : Int)) = true := decide_eq_true (by omega)
      have d2 : (0 < t.size) = True := eq_true hlt
      have k0 : (0 : Int) ≤ k := by omega
      have k1 : (k : Int) ≤ t.size := by omega
      have hyl := HY.out pre r wr hj (by rw [hr, h1]; exact ⟨rowsC rc', by simp⟩)
      have hsz := extract_size t k h3
      have HJ2 := Lib.hid hj
      have HR := Lib.hid hr
      have H1 := Lib.hid h1
      have H2 := Lib.hid h2
      have H6 := Lib.hid h6
      have HB := Lib.hid hbx
      have HLT := Lib.hid hlt
      have hix : ∀ w', Calls Tryz.prog 40 #[.string t, .int .u8 10] w' fun e w'' => e = .returned (.int .i64 (indexByte t.data.toList 10)) ∧ w'' = w' := fun w' => Any.strings_IndexByte Tryz.laysIdx t 10 w'
      have HBB := HB
      have hy2 : ∃ fn tmps assign body, (Instr.yield l #[.string (t.extract 0 k)]).run Tryz.prog wr = .ok (.round l fn tmps assign body) wr ∧ RoundIn Fence.wide (n - 1) Tryz.prog l fn tmps assign body wr fun e W' => e = .returned (.bool true) ∧ J (pre ++ [r]) W' ∧ KpBox Bs wr W' := by
        rw [h5]; exact hyl
      obtain ⟨fn, tmps, assign, body, hy, hR⟩ := hy2
      have HH5 := Lib.hid h5
      clear hyl h5
      rcases h4 with ⟨q1, q2⟩ | q1
      · rw [q1] at hix
        have HIX := Lib.hid hix
        have s1 : IntKind.i64.wrap ((-1 : Int) + 1) = 0 := rfl
        subst q2
        have hxx : t.extract 0 t.size = t := by simp
        rw [hxx] at hy
        have hEE : t.extract t.size t.size = ByteArray.empty := by simp
        have H6' := Lib.hid (show charsD ByteArray.empty.data.toList = some rc' by rw [← hEE]; exact H6.out)
        clear hEE
        clear q1 hix hxx
        gi_wp2_with fail
        refine ⟨trivial, (fun h => by cases h), (callsIn_wide.2 (HIX.out _)).mono ?_⟩
        rintro e w3 ⟨rfl, rfl⟩
        gi_wp2_with fail
        refine ⟨(fun h => by cases h), hR.mono ?_⟩
        clear hR hy
        rintro e w4 ⟨rfl, hJ4, hk4⟩
        have hbx4 := HB.out.kept hk4.1
        have c4 := hbx4.cell (j := 0) rfl
        have f4 := hbx4.fz 0
        have HJ4 := Lib.hid hJ4
        have HB4 := Lib.hid hbx4
        clear hk4 hJ4 hbx4 HB HJ2
        gi_wp2_with fail
        go_roundw
        case rel =>
          refine ⟨pre ++ [r], ByteArray.empty, rc', hJs _ _ _ HJ4.out, ?_, H6'.out, by simp, HB4.out.set (j := 0) (by simp) _⟩
          rw [HR.out, H1.out]; simp
        case measure =>
          rw [boxLen_of (HB4.out.set (j := 0) (by simp) (.string (ByteArray.empty))), boxLen_of HBB.out]
          have := HLT.out; show 0 < _; omega
      · rw [q1] at hix
        have HIX := Lib.hid hix
        have s1 : IntKind.i64.wrap ((k : Int) - 1 + 1) = k := by rw [IntWalk.i64_in _ (by omega)]; omega
        have e0 : ((k : Int) == 0) = false := by rw [beq_eq_false_iff_ne]; have := H2.out; omega
        have e1 : (k = 0) = False := eq_false (by have := H2.out; omega)
        clear q1 hix
        gi_wp2_with fail
        refine ⟨trivial, (fun h => by cases h), (callsIn_wide.2 (HIX.out _)).mono ?_⟩
        rintro e w3 ⟨rfl, rfl⟩
        gi_wp2_with fail
        refine ⟨(fun h => by cases h), hR.mono ?_⟩
        clear hR hy
        rintro e w4 ⟨rfl, hJ4, hk4⟩
        have hbx4 := HB.out.kept hk4.1
        have c4 := hbx4.cell (j := 0) rfl
        have f4 := hbx4.fz 0
        have HJ4 := Lib.hid hJ4
        have HB4 := Lib.hid hbx4
        clear hk4 hJ4 hbx4 HB HJ2
        gi_wp2_with fail
        go_roundw
        case rel =>
          refine ⟨pre ++ [r], t.extract k t.size, rc', hJs _ _ _ HJ4.out, ?_, H6.out, by omega, HB4.out.set (j := 0) (by simp) _⟩
          rw [HR.out, H1.out]; simp
        case measure =>
          rw [boxLen_of (HB4.out.set (j := 0) (by simp) (.string (t.extract k t.size))), boxLen_of HBB.out]
          have := H2.out; have := HLT.out; omega
    · have d1 : decide ((0 : Int) < (t.size : Int)) = false := decide_eq_false (by omega)
      have d2 : (0 < t.size) = False := eq_false hlt
      have hnil := no_row hc hlt
      subst hnil
      have HR := Lib.hid hr
      have HJ2 := Lib.hid hj
      clear hr hj hc hbx hlt
      gi_wp2_with fail
      go_end0
      refine ⟨⟨_, rfl⟩, ?_⟩
      rw [HR.out]
      simp only [rowsC, rowsA, if_true, List.append_nil]
      exact HJ2.out
end
end Go.Proofs.YtphdkcdkhklicaaGreatDoor
