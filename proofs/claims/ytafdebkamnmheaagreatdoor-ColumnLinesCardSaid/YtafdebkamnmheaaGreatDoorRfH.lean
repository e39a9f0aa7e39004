import Derived.Test.YtafdebkamnmheaaGreatDoorJu
/- The reference's buffer: put and Insert into a new one. -/
namespace Go.Proofs.YtafdebkamnmheaaGreatDoor
open Go.RowKit
set_option linter.unusedVariables false
set_option linter.unusedSimpArgs false
def RLogF (w : World) (l : Nat) : Prop := Blk w l 133 (rlC (.slice none 0 0) 0) ∨ ∃ A cap, Blk w l 133 (rlC (.slice A 3 cap) 3)
/-- The reference's buffer, behind its first insertion at most; all its blocks are Z or later. -/
structure RAft (w : World) (Z b t l n pt : Nat) : Prop where
  blk : ∃ m p o lo hi mk tick lock, Blk w b 107 (refC t m p o l pt lo hi mk lock tick)
  txt : ∃ A cap, Blk w t 129 #[.slice A n cap]
  log : RLogF w l
  ord : Z ≤ t ∧ t < l ∧ l < b
section
variable {w w' : World}
theorem lenR_chrs (s : ByteArray) : lenR s = (chrs s).length := rfl
set_option maxRecDepth 100000 in
set_option maxHeartbeats 4000000 in
theorem rput1 {Z b t m p o l : Nat} {lock x y : Int} (h : RFr w Z b t m p o l lock x y) (s : ByteArray) (hs : s.size ≤ 10000) (hv : (charsD s.data.toList).isSome = true) (h0 : 0 < (chrs s).length) :
    Calls Tryz.prog 58 #[pAt b, .int .i64 1, .string s, .bool false] w fun r w' => r = .returned (.tuple #[]) ∧ Only (fun k => Z ≤ k) w w' ∧ RAft w' Z b t l (chrs s).length 1 := by
  have hlen := chrs_len s
  have hLn := rlen_any s w (by omega)
  rw [lenR_chrs] at hLn
  have TI := Lib.hid fun (w1 : World) (hk : Blk w1 t 129 #[.slice none 0 0]) => rtIns0 s hs hv hk
  obtain ⟨n, hn⟩ : ∃ n, n = (chrs s).length := ⟨_, rfl⟩
  rw [← hn] at hLn h0 hlen TI ⊢
  have HLn := Lib.hid hLn
  have H := Lib.hid h
  have hord := h.ord
  have hbw := h.blk.lt
  have d0 : ((n : Int) == 0) = false := by simp; omega
  have s1 : IntKind.i64.wrap (1 + (n : Int)) = ((1 + n : Nat) : Int) := by rw [IntWalk.i64_in _ (by omega)]; omega
  clear hLn hn hv h
  go_enter Tryz.func58, Tryz.ntmps58
  go_wp2_with fail
  refine HLn.out.mono ?_
  rintro e w1 ⟨rfl, hb1⟩
  have H1 := Lib.hid (H.out.up hb1)
  have B1 := Lib.hid hb1
  have z1 := hb1.size
  clear hb1 HLn H
  go_wp2_with fail
  refine (rbegin0 H1.out.blk H1.out.log (by omega)).mono ?_
  rintro e w2 ⟨rfl, ho2, v2, hv2, hl2⟩
  have t2 := H1.out.txt.only ho2 (by show ¬ (t = l); omega)
  have m2 := H1.out.mks.only ho2 (by show ¬ (m = l); omega)
  have p2 := H1.out.prs.only ho2 (by show ¬ (p = l); omega)
  have o2 := H1.out.ovs.only ho2 (by show ¬ (o = l); omega)
  have z2 := ho2.size
  have K2 := Lib.hid (H1.out.blk.only ho2 (by show ¬ (b = l); omega))
  have L2 := Lib.hid hl2
  have V2 := Lib.hid hv2
  have TX := Lib.hid t2
  have MX := Lib.hid m2
  have PX := Lib.hid p2
  have OX := Lib.hid o2
  have O2 := Lib.hid ((Only.of_below B1.out).trans (ho2.mono (T := fun k => Z ≤ k) (fun k hk => by omega)))
  clear ho2 hv2 hl2 t2 m2 p2 o2 H1 B1
  have q0 := K2.out.cell (j := 0) rfl
  go_wp2_with fail
  refine (TI.out w2 TX.out).mono ?_
  rintro e w3 ⟨rfl, ho3, A3, cp3, hk3⟩
  have K3 := Lib.hid (K2.out.only ho3 (by show ¬ (b = t); omega))
  have L3 := Lib.hid (L2.out.only ho3 (by show ¬ (l = t); omega))
  have V3 := Lib.hid (V2.out.kept (fun k hk => ho3.block k (V2.out.lt hk) (by have := V2.out.base hk; show ¬ (k = t); omega)))
  have M3 := Lib.hid (MX.out.only ho3 (by show ¬ (m = t); omega))
  have P3 := Lib.hid (PX.out.only ho3 (by show ¬ (p = t); omega))
  have X3 := Lib.hid (OX.out.only ho3 (by show ¬ (o = t); omega))
  have T3 := Lib.hid hk3
  have O3 := Lib.hid (O2.out.trans (ho3.mono (T := fun k => Z ≤ k) (fun k hk => by omega)))
  have z3 := ho3.size
  clear ho3 hk3 K2 L2 V2 MX PX OX TX O2 q0 TI
  have q1 := K3.out.cell (j := 1) rfl
  go_wp2_with fail
  refine (rmIns0 n false (by omega) (by omega) M3.out).mono ?_
  rintro e w4 ⟨rfl, ho4⟩
  have K4 := Lib.hid (K3.out.only ho4 (by show ¬ (b = m); omega))
  have L4 := Lib.hid (L3.out.only ho4 (by show ¬ (l = m); omega))
  have V4 := Lib.hid (V3.out.kept (fun k hk => ho4.block k (V3.out.lt hk) (by have := V3.out.base hk; show ¬ (k = m); omega)))
  have P4 := Lib.hid (P3.out.only ho4 (by show ¬ (p = m); omega))
  have X4 := Lib.hid (X3.out.only ho4 (by show ¬ (o = m); omega))
  have T4 := Lib.hid (T3.out.only ho4 (by show ¬ (t = m); omega))
  have O4 := Lib.hid (O3.out.trans (ho4.mono (T := fun k => Z ≤ k) (fun k hk => by omega)))
  have z4 := ho4.size
  clear ho4 K3 L3 V3 M3 P3 X3 O3 T3 q1
  have q2 := K4.out.cell (j := 2) rfl
  go_wp2_with fail
  refine (rpIns0 n (by omega) (by omega) P4.out).mono ?_
  rintro e w5 ⟨rfl, rfl⟩
  have q3 := K4.out.cell (j := 3) rfl
  go_wp2_with fail
  refine (roIns0 x y n (by omega) (by omega) X4.out).mono ?_
  rintro e w6 ⟨rfl, ho6⟩
  have K6 := Lib.hid (K4.out.only ho6 (by show ¬ (b = o); omega))
  have L6 := Lib.hid (L4.out.only ho6 (by show ¬ (l = o); omega))
  have V6 := Lib.hid (V4.out.kept (fun k hk => ho6.block k (V4.out.lt hk) (by have := V4.out.base hk; show ¬ (k = o); omega)))
  have T6 := Lib.hid (T4.out.only ho6 (by show ¬ (t = o); omega))
  have O6 := Lib.hid (O4.out.trans (ho6.mono (T := fun k => Z ≤ k) (fun k hk => by omega)))
  have z6 := ho6.size
  clear ho6 K4 L4 V4 P4 X4 O4 T4 q2 q3
  go_wp2_with fail
  have C5 : ∀ x : UpW w6.heap.size w6, x.w.cell? ⟨b, 5, none⟩ = some (.int .i64 (1 : Int)) := fun x => (K6.out.up x.up).cell (j := 5) rfl
  have C6 : ∀ x : UpW w6.heap.size w6, x.w.cell? ⟨b, 6, none⟩ = some (.int .i64 (1 : Int)) := fun x => (K6.out.up x.up).cell (j := 6) rfl
  have C7 : ∀ x : UpW w6.heap.size w6, x.w.cell? ⟨b, 7, none⟩ = some (.int .i64 (1 : Int)) := fun x => (K6.out.up x.up).cell (j := 7) rfl
  have C8 : ∀ x : UpW w6.heap.size w6, x.w.cell? ⟨b, 8, none⟩ = some (.int .i64 (0 : Int)) := fun x => (K6.out.up x.up).cell (j := 8) rfl
  have E1 : Hid (∀ W, Calls Tryz.prog 106 #[.int .i64 1, .int .i64 1, .int .i64 n, .bool false] W fun r w2 => r = .returned (.int .i64 1) ∧ W = w2) := Lib.hid fun W => ron_ok 1 n 1 false (by omega) (by omega) (by omega) (by omega) W
  have e2 : insF 1 n 1 true = ((1 + n : Nat) : Int) := by simp [insF]
  have E2 : Hid (∀ W, Calls Tryz.prog 106 #[.int .i64 1, .int .i64 1, .int .i64 n, .bool true] W fun r w2 => r = .returned (.int .i64 ((1 + n : Nat) : Int)) ∧ W = w2) := Lib.hid fun W => by have := ron_ok 1 n 1 true (by omega) (by omega) (by omega) (by omega) W; rwa [e2] at this
  have E3 : Hid (∀ W, Calls Tryz.prog 106 #[.int .i64 0, .int .i64 1, .int .i64 n, .bool false] W fun r w2 => r = .returned (.int .i64 0) ∧ W = w2) := Lib.hid fun W => ron_ok 1 n 0 false (by omega) (by omega) (by omega) (by omega) W
  clear e2
  refine wp_region_mixS (fun k => k = b) [36, 39, 42, 45] (.one [(0, true), (1, false), (2, false), (3, false), (4, true), (5, true), (6, true), (7, true), (8, true), (9, true), (10, true), (12, false), (13, false), (14, false), (15, true), (16, false), (17, false), (19, false), (20, false), (21, false), (22, true), (23, false), (24, false), (26, false), (27, false), (28, false), (29, true), (30, false), (31, false), (32, false)] 11 (.one [] 18 (.one [] 25 (.one [] 33 (.one [(34, false), (35, true)] 36 (.one [(37, false), (38, false)] 39 (.one [(40, false), (41, false)] 42 (.one [(43, false), (44, false)] 45 (.done []))))))))) (by kernel_rfl) (fun c d v a w h => by cases d <;> exact h) (by kernel_rfl) ?_
  simp only [wpMixS, wpQ2, pk_nil, pk_cons, pushAt_zero, pushAt_succ, List.contains_cons, List.contains_nil, Bool.false_or, Bool.or_false, Bool.true_or, Bool.or_true, Nat.reduceBEq, Nat.reduceEqDiff]
  repeat (first | go_big_quiet_step (fail) | refine wpQuiet_nil ?_)
  clear C5 C6 C7 C8
  have hd6 := (Below.refl w6.heap.size w6).drew
  go_wp2_with fail
  refine (E1.out _).mono ?_
  rintro r w7 ⟨rfl, rfl⟩
  go_wp2_with fail
  refine thenQ_normal ⟨⟨⟨_, hd6⟩, rfl⟩, ?_⟩
  go_wp2_with fail
  refine (E1.out _).mono ?_
  rintro r w7 ⟨rfl, rfl⟩
  go_wp2_with fail
  refine thenQ_normal ⟨⟨⟨_, hd6⟩, rfl⟩, ?_⟩
  go_wp2_with fail
  refine (E2.out _).mono ?_
  rintro r w7 ⟨rfl, rfl⟩
  go_wp2_with fail
  refine thenQ_normal ⟨⟨⟨_, hd6⟩, rfl⟩, ?_⟩
  go_wp2_with fail
  refine (E3.out _).mono ?_
  rintro r w7 ⟨rfl, rfl⟩
  go_wp2_with fail
  refine thenQ_normal ⟨⟨⟨_, hd6⟩, rfl⟩, ?_⟩
  repeat (first | go_big_quiet_step (fail) | refine wpQuiet_nil ?_)
  have k5 := K6.out.cell (j := 5) rfl
  have k6 := K6.out.cell (j := 6) rfl
  have k7 := K6.out.cell (j := 7) rfl
  have k8 := K6.out.cell (j := 8) rfl
  have f5 := K6.out.fz 5
  have f6 := K6.out.fz 6
  have f7 := K6.out.fz 7
  have f8 := K6.out.fz 8
  have r5 := Only.setCell (S := fun k => k = b) (p := ⟨b, 5, none⟩) (Only.refl _ w6) rfl (.int .i64 1)
  have r6 := Only.setCell (S := fun k => k = b) (p := ⟨b, 6, none⟩) r5 rfl (.int .i64 1)
  have r7 := Only.setCell (S := fun k => k = b) (p := ⟨b, 7, none⟩) r6 rfl (.int .i64 (1 + (n : Int)))
  have r8 := Only.setCell (S := fun k => k = b) (p := ⟨b, 8, none⟩) r7 rfl (.int .i64 0)
  have hk8 : Blk ((((w6.setCell ⟨b, 5, none⟩ (.int .i64 1)).setCell ⟨b, 6, none⟩ (.int .i64 1)).setCell ⟨b, 7, none⟩ (.int .i64 (1 + (n : Int)))).setCell ⟨b, 8, none⟩ (.int .i64 0)).drew b 107 (refC t m p o l 1 1 (1 + n) 0 lock 0) :=
    (((K6.out.set (j := 5) (by simp) (.int .i64 1)).set (j := 6) (by simp) (.int .i64 1)).set (j := 7) (by simp) (.int .i64 (1 + (n : Int)))).set (j := 8) (by simp) (.int .i64 0)
  have K8 := Lib.hid hk8
  have R8 := Lib.hid r8.drew
  clear hk8 r8
  go_wp2_with fail
  refine thenQ_normal ⟨⟨⟨_, r5.drew⟩, rfl⟩, ?_⟩
  repeat (first | go_big_quiet_step (fail) | refine wpQuiet_nil ?_)
  go_wp2_with fail
  refine thenQ_normal ⟨⟨⟨_, r6.drew⟩, rfl⟩, ?_⟩
  repeat (first | go_big_quiet_step (fail) | refine wpQuiet_nil ?_)
  go_wp2_with fail
  refine thenQ_normal ⟨⟨⟨_, r7.drew⟩, rfl⟩, ?_⟩
  repeat (first | go_big_quiet_step (fail) | refine wpQuiet_nil ?_)
  go_wp2_with fail
  refine thenQ_normal ⟨⟨⟨_, R8.out⟩, rfl⟩, ?_⟩
  clear k5 k6 k7 k8 f5 f6 f7 f8 r5 r6 r7 hd6 E1 E2 E3
  generalize ((((w6.setCell ⟨b, 5, none⟩ (.int .i64 1)).setCell ⟨b, 6, none⟩ (.int .i64 1)).setCell ⟨b, 7, none⟩ (.int .i64 (1 + (n : Int)))).setCell ⟨b, 8, none⟩ (.int .i64 0)).drew = W8 at *
  have L8 := Lib.hid (L6.out.only R8.out (by show ¬ (l = b); omega))
  have V8 := Lib.hid (V6.out.kept (fun k hk => R8.out.block k (V6.out.lt hk) (by have := V6.out.base hk; show ¬ (k = b); omega)))
  have T8 := Lib.hid (T6.out.only R8.out (by show ¬ (t = b); omega))
  have O8 := Lib.hid (O6.out.trans (R8.out.mono (T := fun k => Z ≤ k) (fun k hk => by omega)))
  have z8 := R8.out.size
  clear R8 L6 V6 T6 O6 K6
  have q16 := K8.out.cell (j := 16) rfl
  go_wp2_with fail
  go_loopw [9] (fun va wr => va = .int .i64 0 ∧ W8 = wr) (fun _ _ => 0)
  case atStart => exact ⟨rfl, rfl⟩
  case round =>
    obtain ⟨rfl, rfl⟩ := hrel
    go_wp2_with fail
    refine (rlog0 K8.out L8.out V8.out (by omega) (by omega) (by omega) (by omega) (1 + n) (by omega) (by omega)).mono ?_
    rintro r w9 ⟨rfl, ho9, v9, hv9, hl9⟩
    have K9 := K8.out.only ho9 (by show ¬ (b = l ∨ w1.heap.size ≤ b); omega)
    have T9 := Lib.hid (T8.out.only ho9 (by show ¬ (t = l ∨ w1.heap.size ≤ t); omega))
    have O9 := Lib.hid (O8.out.trans (ho9.mono (T := fun k => Z ≤ k) (fun k hk => by rcases hk with hk | hk <;> omega)))
    have q14 : w9.cell? ⟨b, 14, none⟩ = some (.int .i64 0) := K9.cell (j := 14) rfl
    have f14 := K9.fz 14
    have HK9 := Lib.hid K9
    have HL9 := Lib.hid hl9
    obtain ⟨A9, c9, rfl, _, _, _⟩ := hv9.shape eltC
    clear K9 hv9 hl9 ho9 K8 L8 V8 T8 O8 q16
    go_wp2_with fail
    go_end0
    have hk10 := HK9.out.set (j := 14) (by simp) (.int .i64 1)
    refine ⟨rfl, Only.setCell (S := fun k => Z ≤ k) (p := ⟨b, 14, none⟩) O9.out (by show Z ≤ b; omega) _, ⟨⟨m, p, o, 1, 1 + n, 0, 1, lock, hk10⟩, ⟨A3, cp3, T9.out.kept (Below.heap_setCell _ _ _ _ (by show t ≠ b; omega))⟩, .inr ⟨A9, c9, HL9.out.kept (Below.heap_setCell _ _ _ _ (by show l ≠ b; omega))⟩, by omega⟩⟩
end
end Go.Proofs.YtafdebkamnmheaaGreatDoor
