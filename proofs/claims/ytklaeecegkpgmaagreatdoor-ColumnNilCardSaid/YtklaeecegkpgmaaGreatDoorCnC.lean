/- ColumnNil: the walk. -/
import Derived.Test.YtklaeecegkpgmaaGreatDoorCnB
import Derived.Test.YtklaeecegkpgmaaGreatDoorLwB
namespace Go.Proofs.YtklaeecegkpgmaaGreatDoor
open Go.RowKit
set_option linter.unusedVariables false
set_option linter.unusedSimpArgs false
section
variable {w w' : World}
set_option maxRecDepth 100000 in
set_option maxHeartbeats 8000000 in
theorem cnil_true {N : Nat} (hT : Tabs N w) (hR : Rules N w) (hN : N ≤ w.heap.size) (k to_ n col tab : Int) (tabs : Bool) :
    Calls Tryz.prog 3 #[.int .i64 k, .int .i64 to_, .int .i64 n, .int .i64 col, .int .i64 tab, .bool tabs] w fun r w' => r = .returned (.bool true) ∧ Below w.heap.size w w' := by
  have HL := Lib.hid (lives_true hT hR hN)
  clear hT hR hN
  go_enter Tryz.func3, Tryz.ntmps3
  go_wp2_with fail
  refine HL.out.mono ?_
  rintro e w1 ⟨rfl, hb1⟩
  have B1 := Lib.hid hb1
  clear hb1
  go_wp2_with fail
  refine (begin_nil k _).mono ?_
  rintro e w2 ⟨rfl, hb⟩
  have B2 := Lib.hid (up2 B1.out hb)
  clear hb B1
  go_wp2_with fail
  refine (end_nil k _).mono ?_
  rintro e w3 ⟨rfl, hb⟩
  have B3 := Lib.hid (up2 B2.out hb)
  clear hb B2
  go_wp2_with fail
  refine (column_nil k tab _).mono ?_
  rintro e w4 ⟨rfl, hb⟩
  have B4 := Lib.hid (up2 B3.out hb)
  clear hb B3
  go_wp2_with fail
  refine (seek_nil k col tab _).mono ?_
  rintro e w5 ⟨rfl, hb⟩
  have B5 := Lib.hid (up2 B4.out hb)
  clear hb B4
  go_wp2_with fail
  refine (lines_nil k n _).mono ?_
  rintro e w6 ⟨rfl, hb⟩
  have B6 := Lib.hid (up2 B5.out hb)
  clear hb B5
  go_wp2_with fail
  refine (move_nil k n col tab _).mono ?_
  rintro e w7 ⟨rfl, hb⟩
  have B7 := Lib.hid (up2 B6.out hb)
  clear hb B6
  go_wp2_with fail
  refine (indent_nil k tab _).mono ?_
  rintro e w8 ⟨rfl, hb⟩
  have B8 := Lib.hid (up2 B7.out hb)
  clear hb B7
  go_wp2_with fail
  refine (synLisp _).mono ?_
  rintro e w9 ⟨tb, bs, ms, mo, rfl, hb, hlt⟩
  have B9 := Lib.hid (up2 B8.out hb)
  have HLT := Lib.hid hlt
  clear hb hlt B8
  go_wp2_with fail
  refine (lisp_nil HLT.out k tab).mono ?_
  rintro e w10 ⟨rfl, hb⟩
  have B10 := Lib.hid (up2 B9.out hb)
  clear hb B9
  go_wp2_with fail
  refine (setIndent_nil k col tab tabs _).mono ?_
  rintro e w11 ⟨rfl, hb⟩
  have B11 := Lib.hid (up2 B10.out hb)
  clear hb B10
  go_wp2_with fail
  refine (fill_nil k to_ col tab _).mono ?_
  rintro e w12 ⟨rfl, hb⟩
  have B12 := Lib.hid (up2 B11.out hb)
  clear hb B11
  go_wp2_with fail
  go_ret
  exact ⟨rfl, B12.out⟩
end
end Go.Proofs.YtklaeecegkpgmaaGreatDoor
