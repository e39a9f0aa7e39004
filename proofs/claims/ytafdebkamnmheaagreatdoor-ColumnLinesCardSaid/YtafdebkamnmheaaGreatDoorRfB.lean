import Derived.Test.YtafdebkamnmheaaGreatDoorRfA
import Derived.Test.YtafdebkamnmheaaGreatDoorJe
import Derived.Test.YtafdebkamnmheaaGreatDoorJj
/- The reference's buffer, new: locked, shut, Size, fits; insertions into no marks, properties, overlays. -/
namespace Go.Proofs.YtafdebkamnmheaaGreatDoor
open Go.RowKit
set_option linter.unusedVariables false
set_option linter.unusedSimpArgs false
section
variable {w w' : World} {b t m p o l : Nat}
set_option maxHeartbeats 1000000 in
theorem rList0 (at_ : Int) (h : Blk w p 139 #[.slice none 0 0]) : Calls Tryz.prog 157 #[pAt p, .int .i64 at_] w fun e w' => e = .returned (.slice none 0 0) ∧ w = w' := by
  have c0 := h.cell (j := 0) rfl
  clear h
  cases d1 : decide (at_ < 1) with
  | true =>
    go_enter Tryz.func157, Tryz.ntmps157
    go_wp2_with fail
    go_ret
    exact ⟨rfl, rfl⟩
  | false =>
    have d2 : decide ((0 : Int) < at_) = true := decide_eq_true (by have := of_decide_eq_false d1; omega)
    go_enter Tryz.func157, Tryz.ntmps157
    go_wp2_with fail
    go_ret
    exact ⟨rfl, rfl⟩
set_option maxHeartbeats 1000000 in
theorem rGet0 (at_ name : Int) (h : Blk w p 139 #[.slice none 0 0]) : Calls Tryz.prog 133 #[pAt p, .int .i64 at_, .int .i64 name] w fun e w' => e = .returned (.tuple #[.agg #[.int .i64 0, .int .i64 0], .bool false]) ∧ Below w.heap.size w w' := by
  have hb := below1 w (.cells #[.int .i64 0, .int .i64 0] 151)
  have H := Lib.hid (h.up hb)
  have hk := Blk.made w 151 #[.int .i64 0, .int .i64 0]
  have HB := Lib.hid hb
  have HK := Lib.hid hk
  clear hb h hk
  go_enter Tryz.func133, Tryz.ntmps133
  go_wp2_with fail
  generalize w.alloc (.cells #[.int .i64 0, .int .i64 0] 151) = W at *
  refine (rList0 at_ H.out).mono ?_
  rintro e w' ⟨rfl, rfl⟩
  have k0 := HK.out.cell (j := 0) rfl
  have k1 := HK.out.cell (j := 1) rfl
  have f0 := HK.out.fz 0
  have f1 := HK.out.fz 1
  go_wp2_with fail
  go_loopw [9] (fun va wr => va = .int .i64 0 ∧ W = wr) (fun _ _ => 0)
  case atStart => exact ⟨rfl, rfl⟩
  case round =>
    obtain ⟨rfl, rfl⟩ := hrel
    go_wp2_with fail
    have hk2 := (HK.out.set (j := 0) (by simp) (.int .i64 0)).set (j := 1) (by simp) (.int .i64 0)
    have k0 := hk2.cell (j := 0) rfl
    have k1 := hk2.cell (j := 1) rfl
    refine bodyPost_ret (v := .tuple #[.agg #[.int .i64 0, .int .i64 0], .bool false]) (by simp [results, Tryz.f133, go_sem, k0, k1]) rfl ?_
    exact ⟨rfl, (HB.out.setCell (p := ⟨w.heap.size, 0, none⟩) (Nat.le_refl _) _).setCell (p := ⟨w.heap.size, 1, none⟩) (Nat.le_refl _) _⟩
set_option maxRecDepth 100000 in
set_option maxHeartbeats 2000000 in
theorem rlocked0 {pt lo hi mk tick : Nat} {lock : Int} (h : Blk w b 107 (refC t m p o l pt lo hi mk lock tick)) (hp : Blk w p 139 #[.slice none 0 0]) (at_ : Int) : Calls Tryz.prog 99 #[pAt b, .int .i64 at_] w fun r w2 => r = .returned (.bool false) ∧ Below w.heap.size w w2 := by
  have C11 : ∀ x : UpW w.heap.size w, x.w.cell? ⟨b, 2, none⟩ = some (pAt p) := fun x => (h.up x.up).cell (j := 2) rfl
  have C16 : ∀ x : UpW w.heap.size w, x.w.cell? ⟨b, 10, none⟩ = some (.int .i64 lock) := fun x => (h.up x.up).cell (j := 10) rfl
  have HG := Lib.hid fun (w1 : World) (hb : Below w.heap.size w w1) => rGet0 at_ lock (hp.up hb)
  clear h hp
  go_enter Tryz.func99, Tryz.ntmps99
  go_wp2_with fail
  refine wp_region_mixT w.heap.size 16 (.two [0, 1, 2, 3, 4, 5, 6, 7, 8] 9 (.one [10, 11, 12] 13 (.one [] 14 (.done [15]))) 13 (.one [] 9 (.one [10, 11, 12] 14 (.done [15])))) (by kernel_rfl) (fun c d v a w h => by cases d <;> exact h) (by kernel_rfl) ?_
  simp only [wpMixT, pk_nil, pk_cons, pushAt_zero, pushAt_succ, List.drop_succ_cons, List.drop_zero]
  repeat (go_big_quiet_step (fail))
  refine wpQuiet_nil ?_
  clear C11 C16
  refine ⟨?_, ?_⟩
  · go_wp2_with fail
    refine (HG.out _ (Below.refl _ w).drew).mono ?_
    rintro r w1 ⟨rfl, hb1⟩
    have hb1' : Below w.heap.size w w1 := up2 (Below.refl _ w).drew hb1
    go_wp2_with fail
    refine thenQ_normal ⟨⟨⟨_, hb1'⟩, rfl⟩, ?_⟩
    repeat (go_big_quiet_step (fail))
    refine wpQuiet_nil ?_
    go_wp2_with fail
    refine thenQ_normal ⟨⟨⟨_, hb1'.alloc hb1'.size _⟩, rfl⟩, ?_⟩
    refine wpQuiet_nil ?_
    go_wp2_with fail
    refine thenQ_normal ⟨⟨⟨_, hb1'.alloc hb1'.size _⟩, rfl⟩, ?_⟩
    repeat (go_big_quiet_step (fail))
    refine wpQuiet_nil ?_
    go_wp2_with fail
    go_ret
    exact ⟨rfl, hb1'.alloc hb1'.size _⟩
  · go_wp2_with fail
    refine thenQ_normal ⟨⟨⟨_, (Below.refl _ w).drew.alloc (Nat.le_refl _) _⟩, rfl⟩, ?_⟩
    refine wpQuiet_nil ?_
    have hk : Blk (w.drew.alloc (.cells #[.int .i64 0, .int .i64 0] 151)) w.heap.size 151 #[.int .i64 0, .int .i64 0] := Blk.made w.drew 151 #[.int .i64 0, .int .i64 0]
    have hbk : Below w.heap.size w (w.drew.alloc (.cells #[.int .i64 0, .int .i64 0] 151)) := (Below.refl _ w).drew.alloc (Nat.le_refl _) _
    go_wp2_with fail
    refine (HG.out _ hbk).mono ?_
    rintro r w1 ⟨rfl, hb1⟩
    have hb1' : Below w.heap.size w w1 := up2 hbk hb1
    have hk1 := hk.up hb1
    have k0 := hk1.cell (j := 0) rfl
    have k1 := hk1.cell (j := 1) rfl
    have f0 := hk1.fz 0
    have f1 := hk1.fz 1
    go_wp2_with fail
    refine thenQ_normal ⟨⟨⟨_, hb1'⟩, rfl⟩, ?_⟩
    repeat (go_big_quiet_step (fail))
    refine wpQuiet_nil ?_
    go_wp2_with fail
    refine thenQ_normal ⟨⟨⟨_, (hb1'.setCell (p := ⟨w.heap.size, 0, none⟩) (Nat.le_refl _) _).setCell (p := ⟨w.heap.size, 1, none⟩) (Nat.le_refl _) _⟩, rfl⟩, ?_⟩
    repeat (go_big_quiet_step (fail))
    refine wpQuiet_nil ?_
    clear k0 k1 f0 f1
    have hbn := (hb1'.setCell (p := ⟨w.heap.size, 0, none⟩) (Nat.le_refl _) (.int .i64 0)).setCell (p := ⟨w.heap.size, 1, none⟩) (Nat.le_refl _) (.int .i64 0)
    generalize (w1.setCell ⟨w.heap.size, 0, none⟩ (.int .i64 0)).setCell ⟨w.heap.size, 1, none⟩ (.int .i64 0) = w3 at *
    go_wp2_with fail
    go_ret
    exact ⟨rfl, hbn⟩
set_option maxHeartbeats 1000000 in
theorem rshut0 {pt lo hi mk tick : Nat} {lock : Int} (h : Blk w b 107 (refC t m p o l pt lo hi mk lock tick)) (hp : Blk w p 139 #[.slice none 0 0]) : Calls Tryz.prog 56 #[pAt b, .int .i64 1] w fun r w2 => r = .returned (.bool false) ∧ Below w.heap.size w w2 := by
  have c11 := h.cell (j := 11) rfl
  have c12 := h.cell (j := 12) rfl
  have HL := Lib.hid (rlocked0 h hp 0)
  clear h hp
  go_enter Tryz.func56, Tryz.ntmps56
  go_wp2_with fail
  refine HL.out.mono ?_
  rintro r w1 ⟨rfl, hb1⟩
  go_wp2_with fail
  go_ret
  exact ⟨rfl, hb1⟩
set_option maxHeartbeats 1000000 in
theorem rtsize {A : Option Addr} {n cap : Nat} (h : Blk w t 129 #[.slice A n cap]) : Calls Tryz.prog 134 #[pAt t] w fun r w2 => r = .returned (.int .i64 n) ∧ w = w2 := by
  have c0 := h.cell (j := 0) rfl
  clear h
  go_enter Tryz.func134, Tryz.ntmps134
  go_wp2_with fail
  go_ret
  exact ⟨rfl, rfl⟩
set_option maxHeartbeats 1000000 in
theorem rsize {A : Option Addr} {n cap : Nat} {pt lo hi mk tick : Nat} {lock : Int} (h : Blk w b 107 (refC t m p o l pt lo hi mk lock tick)) (ht : Blk w t 129 #[.slice A n cap]) : Calls Tryz.prog 100 #[pAt b] w fun r w2 => r = .returned (.int .i64 n) ∧ w = w2 := by
  have c0 := h.cell (j := 0) rfl
  have HS := Lib.hid (rtsize ht)
  clear h ht
  go_enter Tryz.func100, Tryz.ntmps100
  go_wp2_with fail
  refine HS.out.mono ?_
  rintro r w1 ⟨rfl, rfl⟩
  go_wp2_with fail
  go_ret
  exact ⟨rfl, rfl⟩
set_option maxHeartbeats 1000000 in
theorem rfits0 {pt lo hi mk tick : Nat} {lock : Int} (h : Blk w b 107 (refC t m p o l pt lo hi mk lock tick)) (ht : Blk w t 129 #[.slice none 0 0]) (s : ByteArray) (hs : s.size ≤ 10000) (hv : (charsD s.data.toList).isSome = true) : Calls Tryz.prog 57 #[pAt b, .string s, .int .i64 0] w fun r w2 => r = .returned (.int .i64 0) ∧ Below w.heap.size w w2 := by
  have hV := rvalid_any s w (by omega)
  rw [vld_chars, hv] at hV
  have HV := Lib.hid hV
  have hl := lenR_le s
  have HL := Lib.hid fun w1 => rlen_any s w1 (by omega)
  have H := Lib.hid h
  have HT := Lib.hid ht
  have s1 : IntKind.i64.wrap ((65536 : Int) - 0) = 65536 := rfl
  have d1 : decide ((65536 : Int) < (lenR s : Int)) = false := decide_eq_false (by omega)
  clear h ht hv hV hl hs
  go_enter Tryz.func57, Tryz.ntmps57
  go_wp2_with fail
  refine HV.out.mono ?_
  rintro r w1 ⟨rfl, hb1⟩
  go_wp2_with fail
  refine (HL.out w1).mono ?_
  rintro r w2 ⟨rfl, hb2⟩
  have hb : Below w.heap.size w w2 := up2 hb1 hb2
  go_wp2_with fail
  refine (rsize (H.out.up hb) (HT.out.up hb)).mono ?_
  rintro r w3 ⟨rfl, rfl⟩
  go_wp2_with fail
  go_ret
  exact ⟨rfl, hb⟩
end
end Go.Proofs.YtafdebkamnmheaaGreatDoor
