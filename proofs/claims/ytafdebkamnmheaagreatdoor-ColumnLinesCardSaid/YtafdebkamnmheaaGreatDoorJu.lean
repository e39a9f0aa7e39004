import Derived.Test.YtafdebkamnmheaaGreatDoorRfE
import Derived.Test.YtafdebkamnmheaaGreatDoorJp
/- The reference's text: Insert into an empty one. -/
namespace Go.Proofs.YtafdebkamnmheaaGreatDoor
open Go.RowKit
set_option linter.unusedVariables false
set_option linter.unusedSimpArgs false
section
variable {w w' : World} {t : Nat}
set_option maxRecDepth 100000 in
set_option maxHeartbeats 4000000 in
theorem rtIns0 (s : ByteArray) (hs : s.size ≤ 10000) (hv : (charsD s.data.toList).isSome = true) (h : Blk w t 129 #[.slice none 0 0]) :
    Calls Tryz.prog 102 #[pAt t, .int .i64 1, .string s] w fun e w' => e = .returned (.int .i64 0) ∧ Only (fun k => k = t) w w' ∧ ∃ A cap, Blk w' t 129 #[.slice A (chrs s).length cap] := by
  have hlen := chrs_len s
  obtain ⟨cs, hcs⟩ := Option.isSome_iff_exists.1 hv
  have hcc : chrs s = cs := by unfold chrs; rw [hcs]; rfl
  rw [hcc] at hlen ⊢
  have HL := Lib.hid (list_any s w (by omega))
  rw [hcs] at HL
  have H := Lib.hid h
  have c0 := h.cell (j := 0) rfl
  have ht := h.lt
  clear h hv hcs hcc
  go_enter Tryz.func102, Tryz.ntmps102
  go_wp2_with fail
  refine HL.out.mono ?_
  rintro e w1 ⟨hb1, v, rfl, hown⟩
  have h1 := H.out.up hb1
  have B1 := Lib.hid hb1
  have H1 := Lib.hid h1
  have c0 := h1.cell (j := 0) rfl
  have hw1 := hb1.size
  obtain ⟨A, cp, rfl, _, _, hRS⟩ := hown.shape eltI
  rw [List.length_map] at *
  obtain ⟨n, hn⟩ : ∃ n, n = cs.length := ⟨_, rfl⟩
  rw [← hn] at hlen ⊢
  have d1 : decide ((65536 : Int) < (n : Int)) = false := decide_eq_false (by omega)
  have HN := Lib.hid hn
  have hlenI : (cs.map Int.ofNat).length = n := by rw [List.length_map]; exact hn.symm
  have HLI := Lib.hid hlenI
  clear h1 hb1 hown HL H hn hlenI
  go_wp2_with fail
  -- the three appends
  obtain ⟨va, wa, hra, hoa, hga, _⟩ := append_run eltI (A := none) (ys := []) (ROwn.empty (enc := encI) (E := 3) (k := 1) w1.heap.size w1.drew (Nat.le_refl _)) (by simp) (RSl.nil _ _) 0 (by simp) (by omega)
  have hba : Below w1.heap.size w1 wa := ((Below.refl w1.heap.size w1).drew.alloc (Nat.le_refl _) _).grown hga (by simp) (fun k hk => by simp [Value.ownBlock] at hk; omega)
  obtain ⟨vb, wb, hrb, hob, hgb, _⟩ := append_run eltI hoa hba.size (hRS.up hba) cp (by rw [HLI.out]; simp; omega) (by omega)
  rw [HLI.out] at hrb
  have hbb : Below w1.heap.size w1 wb := hba.grown hgb hba.size (fun k hk => hoa.base hk)
  obtain ⟨vc, wc, hrc, hoc, hgc, _⟩ := append_run eltI (A := none) (ys := []) hob hbb.size (RSl.nil _ _) 0 (by rw [List.append_nil, List.nil_append, HLI.out]; simp; omega) (by omega)
  have hbc : Below w1.heap.size w1 wc := hbb.grown hgc hbb.size (fun k hk => hob.base hk)
  obtain ⟨Ac, cc, hvc, _, _, _⟩ := hoc.shape eltI
  rw [List.append_nil, List.append_nil, List.nil_append, HLI.out] at hvc
  subst hvc
  have RA := Lib.hid hra
  have RB := Lib.hid hrb
  have RC := Lib.hid hrc
  have C0 : ∀ x : UpW w1.heap.size w1, x.w.cell? ⟨t, 0, none⟩ = some (.slice none 0 0) := fun x => (H1.out.up x.up).cell (j := 0) rfl
  clear hra hrb hrc hga hgb hgc hoa hob hoc hRS c0
  refine wp_region_mixS (fun k => k = t) [22] (.one [(0, true), (2, true), (3, true), (4, true), (5, true), (6, true), (7, true), (8, true), (10, true), (12, true), (13, true), (14, true), (15, true), (16, true), (17, true), (18, true)] 1 (.one [] 9 (.one [] 11 (.one [] 19 (.one [(20, false), (21, true)] 22 (.done [])))))) (by kernel_rfl) (fun c d v a w h => by cases d <;> exact h) (by kernel_rfl) ?_
  simp only [wpMixS, wpQ2, pk_nil, pk_cons, pushAt_zero, pushAt_succ, List.contains_cons, List.contains_nil, Bool.false_or, Bool.or_false, Bool.true_or, Bool.or_true, Nat.reduceBEq, Nat.reduceEqDiff]
  repeat (first | go_big_quiet_step (fail) | refine wpQuiet_nil ?_)
  clear C0
  go_wp2_with fail
  refine thenQ_normal ⟨⟨⟨_, (Below.refl _ w1).drew.alloc (Nat.le_refl _) _⟩, rfl⟩, ?_⟩
  refine wpList_app_run rfl _ _ _ rfl rfl rfl RA.out ?_
  go_wp2_with fail
  refine thenQ_normal ⟨⟨⟨_, hba⟩, rfl⟩, ?_⟩
  refine wpList_app_run rfl _ _ _ rfl rfl rfl RB.out ?_
  go_wp2_with fail
  refine thenQ_normal ⟨⟨⟨_, hbb⟩, rfl⟩, ?_⟩
  refine wpList_app_run rfl _ _ _ rfl rfl rfl RC.out ?_
  go_wp2_with fail
  refine thenQ_normal ⟨⟨⟨_, hbc⟩, rfl⟩, ?_⟩
  repeat (first | go_big_quiet_step (fail) | refine wpQuiet_nil ?_)
  have h3 := H1.out.up hbc
  have k0 := h3.cell (j := 0) rfl
  have f0 := h3.fz 0
  have H3 := Lib.hid h3
  clear h3
  go_wp2_with fail
  refine thenQ_normal ⟨⟨⟨_, (Only.of_below (S := fun k => k = t) hbc).setCell (p := ⟨t, 0, none⟩) rfl _⟩, rfl⟩, ?_⟩
  clear k0 f0
  go_wp2_with fail
  go_ret
  refine ⟨rfl, Only.setCell (S := fun k => k = t) (p := ⟨t, 0, none⟩) ((Only.of_below B1.out).trans (Only.of_below hbc)) rfl _, Ac, cc, ?_⟩
  rw [← HN.out]
  exact H3.out.set (j := 0) (by simp) (.slice Ac n cc)
end
end Go.Proofs.YtafdebkamnmheaaGreatDoor
/- The reference's buffer: begin, log, the positions. -/
namespace Go.Proofs.YtafdebkamnmheaaGreatDoor
open Go.RowKit
set_option linter.unusedVariables false
set_option linter.unusedSimpArgs false
section
variable {w w' : World} {b t m p o l : Nat} {lock : Int}
set_option maxHeartbeats 1000000 in
theorem rmod0 {pt lo hi mk : Nat} (h : Blk w b 107 (refC t m p o l pt lo hi mk lock 0)) : Calls Tryz.prog 135 #[pAt b] w fun r w2 => r = .returned (.bool false) ∧ Below w.heap.size w w2 := by
  have c14 : w.cell? ⟨b, 14, none⟩ = some (.int .i64 0) := h.cell (j := 14) rfl
  have c15 := h.cell (j := 15) rfl
  clear h
  go_enter Tryz.func135, Tryz.ntmps135
  go_wp2_with fail
  go_region
  go_wp2_with fail
  go_ret
  exact ⟨rfl, (Below.refl _ w).drew⟩
set_option maxRecDepth 100000 in
set_option maxHeartbeats 2000000 in
theorem rbegin0 {lo hi mk : Nat} (h : Blk w b 107 (refC t m p o l 1 lo hi mk lock 0)) (hL : Blk w l 133 (rlC (.slice none 0 0) 0)) (hbl : b ≠ l) :
    Calls Tryz.prog 101 #[pAt b] w fun r w' => r = .returned (.tuple #[]) ∧ Only (fun k => k = l) w w' ∧ ∃ v, ROwn chC 153 9 w.heap.size w' v [(6, 0, 0), (4, 1, 0)] ∧ Blk w' l 133 (rlC v 2) := by
  have hl := hL.lt
  have hb0 := h.lt
  have c13 := h.cell (j := 13) rfl
  have c4 := h.cell (j := 4) rfl
  have l1 := hL.cell (j := 1) rfl
  have H := Lib.hid h
  have HL := Lib.hid hL
  have HM := Lib.hid (rmod0 h)
  clear h hL
  go_enter Tryz.func101, Tryz.ntmps101
  go_wp2_with fail
  refine HM.out.mono ?_
  rintro r w1 ⟨rfl, hb1⟩
  have H1 := Lib.hid (H.out.up hb1)
  have L1 := Lib.hid (HL.out.up hb1)
  have B1 := Lib.hid hb1
  have z1 := hb1.size
  have c4 := H1.out.cell (j := 4) rfl
  clear hb1 H HL HM l1 c13
  go_wp2_with fail
  refine (raddA (B := w.heap.size) z1 hl L1.out).mono ?_
  rintro r w2 ⟨rfl, v2, hv2, hl2, ho2⟩
  have hbT : ¬ (b = l ∨ w.heap.size ≤ b) := by omega
  have H2 := Lib.hid (H1.out.only ho2 hbT)
  have V2 := Lib.hid hv2
  have L2 := Lib.hid hl2
  have O2 := Lib.hid ((Only.of_below (S := fun k => k = l ∨ w.heap.size ≤ k) B1.out).trans ho2)
  have z2 := Nat.le_trans z1 ho2.size
  clear hv2 hl2 ho2 H1 L1 B1 c4
  go_wp2_with fail
  have T5 : ∀ x : OnW (fun k => k = l ∨ w.heap.size ≤ k) w2, x.w.cell? ⟨b, 5, none⟩ = some (.int .i64 (1 : Int)) := fun x => (H2.out.only x.on hbT).cell (j := 5) rfl
  have T4 : ∀ x : OnW (fun k => k = l ∨ w.heap.size ≤ k) w2, x.w.cell? ⟨b, 4, none⟩ = some (pAt l) := fun x => (H2.out.only x.on hbT).cell (j := 4) rfl
  refine wp_region_mixO (fun k => k = l ∨ w.heap.size ≤ k) 10 (.one [0, 1, 2, 3, 4, 5, 6, 7, 8] 9 (.done [])) (by kernel_rfl) (fun c d v a w h => by cases d <;> exact h) (by kernel_rfl) ?_
  simp only [wpMixT, pk_nil, pk_cons, pushAt_zero, pushAt_succ, List.drop_succ_cons, List.drop_zero]
  repeat (go_big_quiet_step (fail))
  refine wpQuiet_nil ?_
  clear T4 T5
  go_wp2_with fail
  have hd := (Below.refl w2.heap.size w2).drew
  refine (raddB (w := w2.drew) (B := w.heap.size) z2 hl (V2.out.up hd) (L2.out.up hd)).mono ?_
  rintro r w3 ⟨rfl, v3, hv3, hl3, ho3⟩
  have ho3' : Only (fun k => k = l ∨ w.heap.size ≤ k) w2 w3 := ((Only.refl _ w2).drew).trans ho3
  go_wp2_with fail
  refine thenQ_normal ⟨⟨⟨_, ho3'⟩, rfl⟩, ?_⟩
  refine wpQuiet_nil ?_
  go_wp2_with fail
  go_end0
  exact ⟨rfl, (Only.refl _ w).then (O2.out.trans ho3') (fun k hk hlt => by omega), v3, hv3, hl3⟩
set_option maxHeartbeats 1000000 in
theorem ron_ok (at_ n x : Int) (ah : Bool) (hx0 : 0 ≤ x) (hx1 : x ≤ 2000000) (hn0 : 0 ≤ n) (hn1 : n ≤ 2000000) (w : World) :
    Calls Tryz.prog 106 #[.int .i64 x, .int .i64 at_, .int .i64 n, .bool ah] w fun r w2 => r = .returned (.int .i64 (insF at_ n x ah)) ∧ w = w2 := by
  have s1 : IntKind.i64.wrap (x + n) = x + n := IntWalk.i64_in _ (by omega)
  clear hx0 hx1 hn0 hn1
  unfold insF
  by_cases hlt : at_ < x
  · rw [if_pos (.inl hlt)]
    have d1 : decide (at_ < x) = true := decide_eq_true hlt
    go_enter Tryz.func106, Tryz.ntmps106
    go_wp2_with fail
    go_ret
    exact ⟨rfl, rfl⟩
  · have d1 : decide (at_ < x) = false := decide_eq_false hlt
    by_cases he : x = at_
    · have d2 : (x == at_) = true := by simp [he]
      cases ah with
      | true =>
        rw [if_pos (.inr ⟨he, rfl⟩)]
        clear he hlt
        go_enter Tryz.func106, Tryz.ntmps106
        go_wp2_with fail
        go_ret
        exact ⟨rfl, rfl⟩
      | false =>
        rw [if_neg (by simp [hlt])]
        clear he hlt
        go_enter Tryz.func106, Tryz.ntmps106
        go_wp2_with fail
        go_ret
        exact ⟨rfl, rfl⟩
    · have d2 : (x == at_) = false := by simp [he]
      rw [if_neg (by simp [hlt, he])]
      clear he hlt
      go_enter Tryz.func106, Tryz.ntmps106
      go_wp2_with fail
      go_ret
      exact ⟨rfl, rfl⟩
set_option maxRecDepth 100000 in
set_option maxHeartbeats 2000000 in
theorem rlog0 {B : Nat} {v : Value} {pt lo hi mk tick : Nat} (h : Blk w b 107 (refC t m p o l pt lo hi mk lock tick)) (hL : Blk w l 133 (rlC v 2)) (hv : ROwn chC 153 9 B w v [(6, 0, 0), (4, 1, 0)]) (hbB : b < B) (hlB : l < B) (hB : B ≤ w.heap.size) (hbl : b ≠ l) (q : Nat) (hq : 1 ≤ q) (hq2 : q ≤ 100000000) :
    Calls Tryz.prog 107 #[pAt b, chV (1, 1, (q : Int))] w fun r w' => r = .returned (.tuple #[]) ∧ Only (fun k => k = l ∨ B ≤ k) w w' ∧ ∃ v, ROwn chC 153 9 B w' v [(6, 0, 0), (4, 1, 0), (1, 1, (q : Int))] ∧ Blk w' l 133 (rlC v 3) := by
  have hb1 := below1 w (.cells #[.int .i64 1, .int .i64 1, .int .i64 (q : Int), .int .i64 0, .int .i64 0, .string ⟨#[]⟩, .int .i64 0, .int .i64 0, .bool false] 153)
  have hk := Blk.made w 153 #[.int .i64 1, .int .i64 1, .int .i64 (q : Int), .int .i64 0, .int .i64 0, .string ⟨#[]⟩, .int .i64 0, .int .i64 0, .bool false]
  have hbw := h.lt
  have c13 := h.cell (j := 13) rfl
  have H1 := Lib.hid (h.up hb1)
  have L1 := Lib.hid (hL.up hb1)
  have V1 := Lib.hid (hv.up hb1)
  have K1 := Lib.hid hk
  have B1 := Lib.hid hb1
  have HQ := Lib.hid (And.intro hq hq2)
  clear h hL hv hk hb1 hq hq2
  go_enter Tryz.func107, Tryz.ntmps107
  go_wp2_with fail
  have z1 := B1.out.size
  generalize w.alloc (.cells #[.int .i64 1, .int .i64 1, .int .i64 (q : Int), .int .i64 0, .int .i64 0, .string ⟨#[]⟩, .int .i64 0, .int .i64 0, .bool false] 153) = W at *
  have C4 : ∀ x : OnW (fun k => False) W, x.w.cell? ⟨b, 4, none⟩ = some (pAt l) := fun x => (H1.out.only x.on id).cell (j := 4) rfl
  have CB : ∀ x : OnW (fun k => False) W, Blk x.w w.heap.size 153 _ := fun x => K1.out.only x.on id
  have b0 := fun x => (CB x).cell (j := 0) rfl
  have b1 := fun x => (CB x).cell (j := 1) rfl
  have b2 := fun x => (CB x).cell (j := 2) rfl
  have b3 := fun x => (CB x).cell (j := 3) rfl
  have b4 := fun x => (CB x).cell (j := 4) rfl
  have b5 := fun x => (CB x).cell (j := 5) rfl
  have b6 := fun x => (CB x).cell (j := 6) rfl
  have b7 := fun x => (CB x).cell (j := 7) rfl
  have b8 := fun x => (CB x).cell (j := 8) rfl
  clear CB
  refine wp_region_mixS2 (fun k => False) (fun k => k = l ∨ B ≤ k) (fun k hk => hk.elim) [5] (.one [(0, false), (1, false), (2, false), (3, true), (4, true)] 5 (.done [])) (by kernel_rfl) (fun c d v a w h => by cases d <;> exact h) (by kernel_rfl) ?_
  simp only [wpMixS, wpQ2, pk_nil, pk_cons, pushAt_zero, pushAt_succ, List.contains_cons, List.contains_nil, Bool.false_or, Bool.or_false, Bool.true_or, Bool.or_true, Nat.reduceBEq, Nat.reduceEqDiff]
  repeat (first | go_big_quiet_step (fail) | refine wpQuiet_nil ?_)
  clear b0 b1 b2 b3 b4 b5 b6 b7 b8 C4
  go_wp2_with fail
  have hd := (Below.refl W.heap.size W).drew
  refine (raddC (w := W.drew) (B := B) q HQ.out.1 HQ.out.2 (Nat.le_trans hB z1) hlB (V1.out.up hd) (L1.out.up hd)).mono ?_
  rintro r w3 ⟨rfl, v3, hv3, hl3, ho3⟩
  have ho3' : Only (fun k => k = l ∨ B ≤ k) W w3 := ((Only.refl _ W).drew).trans ho3
  go_wp2_with fail
  refine thenQ_normal ⟨⟨⟨_, ho3'⟩, rfl⟩, ?_⟩
  go_wp2_with fail
  go_end0
  exact ⟨rfl, (Only.of_below B1.out).trans ho3', v3, hv3, hl3⟩
end
end Go.Proofs.YtafdebkamnmheaaGreatDoor
