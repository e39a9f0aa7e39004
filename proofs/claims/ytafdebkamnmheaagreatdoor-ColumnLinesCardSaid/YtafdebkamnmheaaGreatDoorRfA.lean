import Derived.Test.YtafdebkamnmheaaGreatDoorJi
import Derived.Test.YtafdebkamnmheaaGreatDoorJd
import Derived.Test.YtafdebkamnmheaaGreatDoorJg
/- The reference's buffer: New. -/
namespace Go.Proofs.YtafdebkamnmheaaGreatDoor
open Go.RowKit
set_option linter.unusedVariables false
set_option linter.unusedSimpArgs false
section
variable {w w' : World}
set_option maxRecDepth 100000 in
set_option maxHeartbeats 1000000 in
theorem listE (w : World) : Calls Tryz.prog 50 #[.string ⟨#[]⟩] w fun e w' => e = .returned (.tuple #[.slice none 0 0, .int .i64 0]) ∧ w = w' := by
  go_enter Tryz.func50, Tryz.ntmps50
  go_wp2_with fail
  go_loopw [0, 4] (fun vs vo wr => vs = .string ⟨#[]⟩ ∧ vo = .slice none 0 0 ∧ w = wr) (fun _ _ _ => 0)
  case atStart => exact ⟨rfl, rfl, rfl⟩
  case round =>
    obtain ⟨rfl, rfl, rfl⟩ := hrel
    go_wp2_with fail
    go_ret2
    exact ⟨rfl, rfl⟩
set_option maxHeartbeats 1000000 in
theorem r15new (w : World) : Calls Tryz.prog 51 #[.string ⟨#[]⟩] w fun e w' => e = .returned (.tuple #[pAt w.heap.size, .int .i64 0]) ∧ Below w.heap.size w w' ∧ w'.heap.size = w.heap.size + 1 ∧ Blk w' w.heap.size 129 #[.slice none 0 0] := by
  go_enter Tryz.func51, Tryz.ntmps51
  go_wp2_with fail
  refine (listE w).mono ?_
  rintro e w' ⟨rfl, rfl⟩
  go_wp2_with fail
  go_ret2
  exact ⟨rfl, below1 w _, by simp, Blk.made w _ _⟩
set_option maxHeartbeats 1000000 in
theorem r19new (w : World) : Calls Tryz.prog 52 #[.int .i64 1048576] w fun e w' => e = .returned (.tuple #[pAt w.heap.size, .int .i64 0]) ∧ Below w.heap.size w w' ∧ w'.heap.size = w.heap.size + 1 ∧
    Blk w' w.heap.size 133 #[.slice none 0 0, .slice none 0 0, .int .i64 1048576, .int .i64 (-1), .int .i64 0, .int .i64 0] := by
  go_enter Tryz.func52, Tryz.ntmps52
  go_wp2_with fail
  go_ret2
  exact ⟨rfl, below1 w _, by simp, Blk.made w _ _⟩
set_option maxHeartbeats 1000000 in
theorem r16new (w : World) : Calls Tryz.prog 53 #[] w fun e w' => e = .returned (pAt w.heap.size) ∧ Below w.heap.size w w' ∧ w'.heap.size = w.heap.size + 1 ∧ Blk w' w.heap.size 136 #[.slice none 0 0, .int .i64 0] := by
  go_enter Tryz.func53, Tryz.ntmps53
  go_wp2_with fail
  go_ret
  exact ⟨rfl, below1 w _, by simp, Blk.made w _ _⟩
set_option maxHeartbeats 1000000 in
theorem r17new (w : World) : Calls Tryz.prog 54 #[] w fun e w' => e = .returned (pAt w.heap.size) ∧ Below w.heap.size w w' ∧ w'.heap.size = w.heap.size + 1 ∧ Blk w' w.heap.size 139 #[.slice none 0 0] := by
  go_enter Tryz.func54, Tryz.ntmps54
  go_wp2_with fail
  go_ret
  exact ⟨rfl, below1 w _, by simp, Blk.made w _ _⟩
set_option maxHeartbeats 1000000 in
theorem r18new (w : World) (x y : Int) : Calls Tryz.prog 55 #[.int .i64 x, .int .i64 y] w fun e w' => e = .returned (pAt w.heap.size) ∧ Below w.heap.size w w' ∧ w'.heap.size = w.heap.size + 1 ∧ Blk w' w.heap.size 142 #[.slice none 0 0, .int .i64 0, .int .i64 x, .int .i64 y] := by
  go_enter Tryz.func55, Tryz.ntmps55
  go_wp2_with fail
  go_ret
  exact ⟨rfl, below1 w _, by simp, Blk.made w _ _⟩
/-- The reference buffer's cells. -/
abbrev refC (t m p o l : Nat) (pt lo hi mk : Nat) (lock : Int) (tick : Nat) : Array Value := #[pAt t, pAt m, pAt p, pAt o, pAt l, .int .i64 pt, .int .i64 lo, .int .i64 hi, .int .i64 mk, .bool false, .int .i64 lock, .bool false, .bool false, .bool false, .int .i64 tick, .int .i64 0, .slice none 0 0, .int .i64 0]
/-- A new reference buffer at block b; all its blocks are Z or later. -/
structure RFr (w : World) (Z b t m p o l : Nat) (lock x y : Int) : Prop where
  blk : Blk w b 107 (refC t m p o l 1 1 1 0 lock 0)
  txt : Blk w t 129 #[.slice none 0 0]
  mks : Blk w m 136 #[.slice none 0 0, .int .i64 0]
  prs : Blk w p 139 #[.slice none 0 0]
  ovs : Blk w o 142 #[.slice none 0 0, .int .i64 0, .int .i64 x, .int .i64 y]
  log : Blk w l 133 #[.slice none 0 0, .slice none 0 0, .int .i64 1048576, .int .i64 (-1), .int .i64 0, .int .i64 0]
  ord : Z ≤ t ∧ t < l ∧ l < m ∧ m < p ∧ p < o ∧ o < b
theorem RFr.up {Z b t m p o l : Nat} {lock x y : Int} (h : RFr w Z b t m p o l lock x y) (hb : Below w.heap.size w w') : RFr w' Z b t m p o l lock x y :=
  ⟨h.blk.up hb, h.txt.up hb, h.mks.up hb, h.prs.up hb, h.ovs.up hb, h.log.up hb, h.ord⟩
set_option maxRecDepth 100000 in
set_option maxHeartbeats 2000000 in
theorem refNew (w : World) (x y lock : Int) : Calls Tryz.prog 20 #[.int .i64 x, .int .i64 y, .int .i64 lock] w fun e w' =>
    ∃ b t m p o l, e = .returned (pAt b) ∧ Below w.heap.size w w' ∧ RFr w' w.heap.size b t m p o l lock x y := by
  have e0 : w.heap.size ≤ w.heap.size := Nat.le_refl _
  obtain ⟨Z, hZ⟩ : ∃ Z, Z = w.heap.size := ⟨_, rfl⟩
  have HZ := Lib.hid hZ
  rw [← hZ]
  go_enter Tryz.func20, Tryz.ntmps20
  go_wp2_with fail
  refine (r15new w).mono ?_
  rintro e w1 ⟨rfl, hb1, hs1, hk1⟩
  replace hs1 := Nat.le_of_eq hs1.symm
  have T1 := Lib.hid hk1
  have B1 := Lib.hid hb1
  clear hk1 hb1
  have HZ2 : Z ≤ w.heap.size := Nat.le_of_eq HZ.out
  clear hZ e0
  obtain ⟨t, ht⟩ : ∃ t, t = w.heap.size := ⟨_, rfl⟩
  rw [← ht] at T1 hs1 HZ2 ⊢
  have HT := Lib.hid ht
  clear ht
  go_wp2_with fail
  refine (r19new w1).mono ?_
  rintro e w2 ⟨rfl, hb2, hs2, hl2⟩
  replace hs2 := Nat.le_of_eq hs2.symm
  have T2 := Lib.hid (T1.out.up hb2)
  have B2 := Lib.hid (up2 B1.out hb2)
  have L2 := Lib.hid hl2
  clear hb2 hl2 T1 B1
  generalize w1.heap.size = l at *
  go_wp2_with fail
  refine (r16new w2).mono ?_
  rintro e w3 ⟨rfl, hb3, hs3, hm3⟩
  replace hs3 := Nat.le_of_eq hs3.symm
  have T3 := Lib.hid (T2.out.up hb3)
  have B3 := Lib.hid (up2 B2.out hb3)
  have L3 := Lib.hid (L2.out.up hb3)
  have M3 := Lib.hid hm3
  clear hb3 hm3 T2 B2 L2
  generalize w2.heap.size = m at *
  go_wp2_with fail
  refine (r17new w3).mono ?_
  rintro e w4 ⟨rfl, hb4, hs4, hp4⟩
  replace hs4 := Nat.le_of_eq hs4.symm
  have T4 := Lib.hid (T3.out.up hb4)
  have B4 := Lib.hid (up2 B3.out hb4)
  have L4 := Lib.hid (L3.out.up hb4)
  have M4 := Lib.hid (M3.out.up hb4)
  have P4 := Lib.hid hp4
  clear hb4 hp4 T3 B3 L3 M3
  generalize w3.heap.size = p at *
  go_wp2_with fail
  refine (r18new w4 x y).mono ?_
  rintro e w5 ⟨rfl, hb5, hs5, ho5⟩
  replace hs5 := Nat.le_of_eq hs5.symm
  have T5 := Lib.hid (T4.out.up hb5)
  have B5 := Lib.hid (up2 B4.out hb5)
  have L5 := Lib.hid (L4.out.up hb5)
  have M5 := Lib.hid (M4.out.up hb5)
  have P5 := Lib.hid (P4.out.up hb5)
  have O5 := Lib.hid ho5
  clear hb5 ho5 T4 B4 L4 M4 P4
  generalize w4.heap.size = o at *
  go_wp2_with fail
  go_ret
  have hb6 := below1 w5 (.cells (refC t m p o l 1 1 1 0 lock 0) 107)
  have hk6 := Blk.made w5 107 (refC t m p o l 1 1 1 0 lock 0)
  exact ⟨w5.heap.size, t, m, p, o, l, rfl, by rw [HZ.out]; exact up2 B5.out hb6, hk6, T5.out.up hb6, M5.out.up hb6, P5.out.up hb6, O5.out.up hb6, L5.out.up hb6, by omega⟩
end
end Go.Proofs.YtafdebkamnmheaaGreatDoor
