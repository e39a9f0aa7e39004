/- copyistlaw25.KillApart: objects that are not valid. -/
import Derived.Test.YtaofcnmajicpcaaGreatDoorKgT
namespace Go.Proofs.YtaofcnmajicpcaaGreatDoor
open Go.RowKit
set_option linter.unusedVariables false
set_option linter.unusedSimpArgs false
section
variable {w w' : World}
abbrev Ans (w : World) (v : Value) (e : Ending) (w' : World) : Prop := e = .returned v ∧ Below w.heap.size w w'
set_option maxHeartbeats 1000000 in
theorem rnone_nil (w : World) : Calls Tryz.prog 33 #[.pointer none] w fun e w' => e = .returned (.bool true) ∧ w = w' := by
  go_enter Tryz.func33, Tryz.ntmps33
  go_wp2_with fail
  go_ret
  exact ⟨rfl, rfl⟩
set_option maxHeartbeats 1000000 in
theorem rcheck_nil (w : World) : Calls Tryz.prog 48 #[.pointer none] w (Ans w (.int .i64 1)) := by
  go_enter Tryz.func48, Tryz.ntmps48
  go_wp2_with fail
  refine (rnone_nil _).mono ?_
  rintro e w1 ⟨rfl, rfl⟩
  go_wp2_with fail
  go_ret
  exact ⟨rfl, Below.refl _ _⟩
set_option maxHeartbeats 1000000 in
theorem rkill_nil (s : ByteArray) (w : World) : Calls Tryz.prog 22 #[.pointer none, .string s] w (Ans w (.int .i64 1)) := by
  go_enter Tryz.func22, Tryz.ntmps22
  go_wp2_with fail
  refine (rnone_nil _).mono ?_
  rintro e w1 ⟨rfl, rfl⟩
  go_wp2_with fail
  go_ret
  exact ⟨rfl, Below.refl _ _⟩
set_option maxHeartbeats 1000000 in
theorem rapp_nil (s : ByteArray) (ahead : Bool) (w : World) : Calls Tryz.prog 27 #[.pointer none, .string s, .bool ahead] w (Ans w (.int .i64 1)) := by
  go_enter Tryz.func27, Tryz.ntmps27
  go_wp2_with fail
  refine (rnone_nil _).mono ?_
  rintro e w1 ⟨rfl, rfl⟩
  go_wp2_with fail
  refine (rkill_nil _ _).mono ?_
  rintro e w2 ⟨rfl, hb2⟩
  go_wp2_with fail
  go_ret
  exact ⟨rfl, hb2⟩
set_option maxHeartbeats 1000000 in
theorem ryank_nil (n : Int) (w : World) : Calls Tryz.prog 23 #[.pointer none, .int .i64 n] w (Ans w (.tuple #[.string ⟨#[]⟩, .int .i64 1])) := by
  go_enter Tryz.func23, Tryz.ntmps23
  go_wp2_with fail
  refine (rcheck_nil _).mono ?_
  rintro e w1 ⟨rfl, hb1⟩
  go_wp2_with fail
  go_ret2
  exact ⟨rfl, hb1⟩
set_option maxHeartbeats 1000000 in
theorem rpop_nil (n : Int) (w : World) : Calls Tryz.prog 24 #[.pointer none, .int .i64 n] w (Ans w (.tuple #[.string ⟨#[]⟩, .int .i64 1])) := by
  go_enter Tryz.func24, Tryz.ntmps24
  go_wp2_with fail
  refine (rcheck_nil _).mono ?_
  rintro e w1 ⟨rfl, hb1⟩
  go_wp2_with fail
  go_ret2
  exact ⟨rfl, hb1⟩
set_option maxRecDepth 100000 in
set_option maxHeartbeats 1000000 in
theorem do_nil (a : KAct) (w : World) : Calls Tryz.prog 7 #[.pointer none, .agg #[.int .i64 a.kind, .int .i64 a.n, .string a.text, .bool a.ahead]] w (Ans w (.tuple #[.string ⟨#[]⟩, .int .i64 1])) := by
  obtain ⟨kind, n, text, ahead⟩ := a
  have hp := pick_pos kind 6 (by omega)
  have hpk := fun w1 => pick_any kind 6 w1 (by omega) (by omega)
  dsimp only
  generalize pickI kind 6 = p at *
  have HPK := Lib.hid hpk
  clear hpk
  obtain rfl | rfl | rfl | rfl | rfl | rfl : p = 0 ∨ p = 1 ∨ p = 2 ∨ p = 3 ∨ p = 4 ∨ p = 5 := by omega
  all_goals
    go_enter Tryz.func7, Tryz.ntmps7
    go_wp2_with fail
    refine (HPK.out _).mono ?_
    rintro e w' ⟨rfl, rfl⟩
    go_wp2_with fail
    first
      | refine (rkill_nil _ _).mono ?_
      | refine (rapp_nil _ _ _).mono ?_
      | refine (ryank_nil _ _).mono ?_
      | refine (rpop_nil _ _).mono ?_
    rintro e w2 ⟨rfl, hb2⟩
    go_wp2_with fail
    go_ret2
    exact ⟨rfl, up2 (below1 _ _) hb2⟩
set_option maxHeartbeats 1000000 in
theorem rall_nil (w : World) : Calls Tryz.prog 10 #[.pointer none] w (Ans w (.slice none 0 0)) := by
  go_enter Tryz.func10, Tryz.ntmps10
  go_wp2_with fail
  refine (rnone_nil _).mono ?_
  rintro e w1 ⟨rfl, rfl⟩
  go_wp2_with fail
  go_ret
  exact ⟨rfl, Below.refl _ _⟩
set_option maxHeartbeats 1000000 in
theorem rcopy_nil (w : World) : Calls Tryz.prog 11 #[.pointer none] w (Ans w (.pointer none)) := by
  go_enter Tryz.func11, Tryz.ntmps11
  go_wp2_with fail
  refine (rnone_nil _).mono ?_
  rintro e w1 ⟨rfl, rfl⟩
  go_wp2_with fail
  go_ret
  exact ⟨rfl, Below.refl _ _⟩
set_option maxHeartbeats 1000000 in
theorem gnone_nil (w : World) : Calls Tryz.prog 28 #[.pointer none] w fun e w' => e = .returned (.bool true) ∧ w = w' := by
  go_enter Tryz.func28, Tryz.ntmps28
  go_wp2_with fail
  go_ret
  exact ⟨rfl, rfl⟩
set_option maxHeartbeats 1000000 in
theorem gget_nil (c : Int) (w : World) : Calls Tryz.prog 8 #[.pointer none, .int .i64 c] w (Ans w (.tuple #[regV zeroG, .bool false])) := by
  go_enter Tryz.func8, Tryz.ntmps8
  go_wp2_with fail
  refine (gnone_nil _).mono ?_
  rintro e w1 ⟨rfl, rfl⟩
  go_wp2_with fail
  refine bodyPost_ret (v := .tuple #[regV zeroG, .bool false]) (by simp [results, Tryz.f8, go_sem, regV, zeroG]) rfl ⟨rfl, ?_⟩
  first | exact below1 _ _ | exact Below.refl _ _
set_option maxHeartbeats 1000000 in
theorem gset_nil (c : Int) (r : Reg) (w : World) : Calls Tryz.prog 36 #[.pointer none, .int .i64 c, regV r] w (Ans w (.int .i64 1)) := by
  go_enter Tryz.func36, Tryz.ntmps36
  go_wp2_with fail
  refine (gnone_nil _).mono ?_
  rintro e w1 ⟨rfl, rfl⟩
  go_wp2_with fail
  go_ret
  exact ⟨rfl, by first | exact Below.refl _ _ | exact below1 _ _⟩
set_option maxHeartbeats 1000000 in
theorem gdrop_nil (c : Int) (w : World) : Calls Tryz.prog 37 #[.pointer none, .int .i64 c] w (Ans w (.int .i64 1)) := by
  go_enter Tryz.func37, Tryz.ntmps37
  go_wp2_with fail
  refine (gnone_nil _).mono ?_
  rintro e w1 ⟨rfl, rfl⟩
  go_wp2_with fail
  go_ret
  exact ⟨rfl, by first | exact Below.refl _ _ | exact below1 _ _⟩
set_option maxHeartbeats 1000000 in
theorem gadd_nil (c n : Int) (w : World) : Calls Tryz.prog 38 #[.pointer none, .int .i64 c, .int .i64 n] w (Ans w (.int .i64 1)) := by
  go_enter Tryz.func38, Tryz.ntmps38
  go_wp2_with fail
  refine (gnone_nil _).mono ?_
  rintro e w1 ⟨rfl, rfl⟩
  go_wp2_with fail
  go_ret
  exact ⟨rfl, by first | exact Below.refl _ _ | exact below1 _ _⟩
set_option maxHeartbeats 1000000 in
theorem gnames_nil (w : World) : Calls Tryz.prog 13 #[.pointer none] w (Ans w (.slice none 0 0)) := by
  go_enter Tryz.func13, Tryz.ntmps13
  go_wp2_with fail
  refine (gnone_nil _).mono ?_
  rintro e w1 ⟨rfl, rfl⟩
  go_wp2_with fail
  go_ret
  exact ⟨rfl, Below.refl _ _⟩
set_option maxHeartbeats 1000000 in
theorem gcopy_nil (w : World) : Calls Tryz.prog 14 #[.pointer none] w (Ans w (.pointer none)) := by
  go_enter Tryz.func14, Tryz.ntmps14
  go_wp2_with fail
  refine (gnone_nil _).mono ?_
  rintro e w1 ⟨rfl, rfl⟩
  go_wp2_with fail
  go_ret
  exact ⟨rfl, Below.refl _ _⟩
set_option maxRecDepth 100000 in
set_option maxHeartbeats 2000000 in
theorem call_nil (a : CallE) (ha : CallOk w a) : Calls Tryz.prog 12 #[.pointer none, .agg #[.int .i64 a.kind, .int .i64 a.c, .int .i64 a.n, .int .i64 a.x.kind, .int .i64 a.x.n, .int .i64 a.x.id, .string a.x.text, .slice a.x.A a.x.rows.length a.x.c]] w (Ans w (.int .i64 1)) := by
  obtain ⟨kind, c, n, ⟨xk, xn, xi, xt, xA, xc, xr⟩⟩ := a
  have hp := pick_pos kind 6 (by omega)
  have HPK := Lib.hid (fun w1 => pick_any kind 6 w1 (by omega) (by omega))
  have hrs : RSl encS w xA xr := ha.rs
  have hxl : xr.length ≤ 6 := ha.l
  dsimp only
  generalize pickI kind 6 = p at *
  have HO := Lib.hid (fun (w1 : World) (hb : Below w.heap.size w w1) => own_any (hrs.up hb) xc (by omega))
  clear ha hrs
  by_cases h3 : p < 3
  · obtain rfl | rfl | rfl : p = 0 ∨ p = 1 ∨ p = 2 := by omega
    all_goals
      go_enter Tryz.func12, Tryz.ntmps12
      go_wp2_with fail
      refine (HPK.out _).mono ?_
      rintro e w' ⟨rfl, rfl⟩
      go_wp2_with fail
      refine (HO.out _ (up2 (below1 _ _) (below1 _ _))).mono ?_
      rintro e w1 ⟨v, rfl, hown, hb⟩
      obtain ⟨A', c', rfl, hlc, hcm, hr⟩ := hown.shape eltS
      have hz := hb.size
      simp at hz
      have k0 := hb.cell (p := ⟨w.heap.size + 1, 0, none⟩) (by simp)
      have k1 := hb.cell (p := ⟨w.heap.size + 1, 1, none⟩) (by simp)
      have k2 := hb.cell (p := ⟨w.heap.size + 1, 2, none⟩) (by simp)
      have k3 := hb.cell (p := ⟨w.heap.size + 1, 3, none⟩) (by simp)
      have k4 := hb.cell (p := ⟨w.heap.size + 1, 4, none⟩) (by simp)
      have kf := fun o => hb.frozen (p := ⟨w.heap.size + 1, o, none⟩) (by simp)
      have q1 := hb.cell (p := ⟨w.heap.size, 1, none⟩) (by simp; omega)
      simp at k0 k1 k2 k3 k4 kf q1
      have HB := Lib.hid (set_below (up2 (up2 (below1 _ _) (below1 _ _)) hb) (w.heap.size + 1) 4 (.slice A' xr.length c') (by omega))
      clear hown hr hb
      go_wp2_with fail
      refine (gset_nil _ ⟨xk, xn, xi, xt, A', c', xr⟩ _).mono ?_
      rintro e w2 ⟨rfl, hb2⟩
      have HB2 := Lib.hid (up2 HB.out hb2)
      clear hb2
      go_wp2_with fail
      go_ret
      exact ⟨rfl, HB2.out⟩
  · clear HO
    obtain rfl | rfl | rfl : p = 3 ∨ p = 4 ∨ p = 5 := by omega
    all_goals
      go_enter Tryz.func12, Tryz.ntmps12
      go_wp2_with fail
      refine (HPK.out _).mono ?_
      rintro e w' ⟨rfl, rfl⟩
      go_wp2_with fail
      first
        | refine (gdrop_nil _ _).mono ?_
        | refine (gadd_nil _ _ _).mono ?_
      rintro e w2 ⟨rfl, hb2⟩
      go_wp2_with fail
      go_ret
      exact ⟨rfl, up2 (below1 _ _) hb2⟩
end
end Go.Proofs.YtaofcnmajicpcaaGreatDoor
