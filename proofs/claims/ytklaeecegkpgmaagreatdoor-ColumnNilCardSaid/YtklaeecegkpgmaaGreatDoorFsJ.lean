import Derived.Test.YtklaeecegkpgmaaGreatDoorJp
import Derived.Test.YtklaeecegkpgmaaGreatDoorUnB
/- Package buffer: note of the first insertion into a new buffer. -/
namespace Go.Proofs.YtklaeecegkpgmaaGreatDoor
open Go.RowKit
set_option linter.unusedVariables false
set_option linter.unusedSimpArgs false
section
variable {w w' : World} {b : Nat} {S : BS}
set_option maxRecDepth 100000 in
set_option maxHeartbeats 4000000 in
theorem note0_ok {N : Nat} (hR : Rules N w) (h : BufB w b S) (hlg : S.logs = true) (hem : S.empty = true) (htk : S.tick = 0) (hcl : S.clean = 0) (hpt : S.pt = 1) (hNl : N ≤ S.l) (hNb : N ≤ b) (hbl : b ≠ S.l)
    (hL : Blk w S.l 175 (lgC (.slice none 0 0) (.slice none 0 0) 0 0)) (q : Nat) (hq : 1 ≤ q) (hq2 : q ≤ 100000000) :
    Calls Tryz.prog 117 #[pAt b, chV (1, 1, (q : Int))] w fun r w' => r = .returned (.tuple #[]) ∧ Only (fun k => k = b ∨ k = S.l) w w' ∧ BufB w' b { S with empty := false } ∧
      ∃ B v, w.heap.size ≤ B ∧ B ≤ w'.heap.size ∧ ROwn chC 156 9 B w' v [(6, 0, 0), (4, 1, 0), (1, 1, (q : Int))] ∧ Blk w' S.l 175 (lgC (.slice none 0 0) v 3 3) := by
  obtain ⟨pt, lo, hi, mark, marked, ro, fo, tick, clean, t, m, p, o, l, logs, empty, lock, saved, tokens⟩ := S
  simp only at hlg hem htk hcl hpt hNl hbl hL ⊢
  subst hlg hem htk hcl hpt
  have c14 := h.cell (j := 14) rfl
  have c15 := h.cell (j := 15) rfl
  have f15 := h.fz 15
  have c7 : w.cell? ⟨b, 7, none⟩ = some (.int .i64 0) := h.cell (j := 7) rfl
  have c8 : w.cell? ⟨b, 8, none⟩ = some (.int .i64 0) := h.cell (j := 8) rfl
  have c13 := h.cell (j := 13) rfl
  obtain ⟨w0, hw0⟩ : ∃ w0, w.setCell ⟨b, 15, none⟩ (.bool false) = w0 := ⟨_, rfl⟩
  have h0 : BufB w0 b ⟨1, lo, hi, mark, marked, ro, fo, 0, 0, t, m, p, o, l, true, false, lock, saved, tokens⟩ := hw0 ▸ h.set (j := 15) (by simp) (.bool false)
  have hL0 : Blk w0 l 175 (lgC (.slice none 0 0) (.slice none 0 0) 0 0) := hw0 ▸ hL.kept (Below.heap_setCell _ ⟨b, 15, none⟩ _ _ (Ne.symm hbl))
  have ho0 : Only (fun k => k = b) w w0 := hw0 ▸ Only.setCell (S := fun k => k = b) (p := ⟨b, 15, none⟩) (Only.refl _ w) rfl _
  have hR0 : Rules N w0 := hR.only ho0 (fun k hk => hk ▸ hNb)
  have hsz0 : w0.heap.size = w.heap.size := by rw [← hw0]; simp
  have hb1 := below1 w0 (.cells #[.int .i64 1, .int .i64 1, .int .i64 (q : Int), .int .i64 0, .int .i64 0, .string ⟨#[]⟩, .int .i64 0, .int .i64 0, .bool false] 156)
  have hk := Blk.made w0 156 #[.int .i64 1, .int .i64 1, .int .i64 (q : Int), .int .i64 0, .int .i64 0, .string ⟨#[]⟩, .int .i64 0, .int .i64 0, .bool false]
  have hsz : (w0.alloc (.cells #[.int .i64 1, .int .i64 1, .int .i64 (q : Int), .int .i64 0, .int .i64 0, .string ⟨#[]⟩, .int .i64 0, .int .i64 0, .bool false] 156)).heap.size = w.heap.size + 1 := by simp [hsz0]
  have hlw := hL.lt
  have hbw := h.lt
  rw [hsz0] at hk
  have d7 : w0.cell? ⟨b, 7, none⟩ = some (.int .i64 0) := h0.cell (j := 7) rfl
  have d8 : w0.cell? ⟨b, 8, none⟩ = some (.int .i64 0) := h0.cell (j := 8) rfl
  have d13 := h0.cell (j := 13) rfl
  have H1 := Lib.hid (h0.up hb1)
  have R1 := Lib.hid (hR0.up hb1)
  have L1 := Lib.hid (hL0.up hb1)
  have K1 := Lib.hid hk
  have O1 := Lib.hid (ho0.trans (Only.of_below hb1))
  have NL := Lib.hid (And.intro hNl hNb)
  have HQ := Lib.hid (And.intro hq hq2)
  have HBL := Lib.hid hbl
  clear h hR hL hk hb1 h0 hL0 hR0 ho0 hNl hNb hq hq2
  go_enter Tryz.func117, Tryz.ntmps117
  go_wp2_with fail
  go_region
  go_wp2_with fail
  generalize w0.alloc (.cells #[.int .i64 1, .int .i64 1, .int .i64 (q : Int), .int .i64 0, .int .i64 0, .string ⟨#[]⟩, .int .i64 0, .int .i64 0, .bool false] 156) = W at *
  clear c14 c15 f15 c7 c8 c13 hw0 d7 d8 d13
  have hd := (Below.refl W.heap.size W).drew
  refine (uaddA (B := W.heap.size) (R1.out.up hd) (Nat.le_refl _) (by have := NL.out; omega) (by omega) NL.out.1 (L1.out.up hd)).mono ?_
  rintro r w2 ⟨rfl, v2, hv2, hl2, ho2⟩
  have ho2' : Only (fun k => k = l ∨ W.heap.size ≤ k) W w2 := ((Only.refl _ W).drew).trans ho2
  have hs2 := ho2'.size
  have H2 := Lib.hid (H1.out.only ho2' (by have := HBL.out; omega))
  have K2 := Lib.hid (K1.out.only ho2' (by omega))
  have R2 := Lib.hid (R1.out.only ho2' (fun k hk => by have := NL.out; omega))
  have O2 := Lib.hid ho2'
  have V2 := Lib.hid hv2
  have L2 := Lib.hid hl2
  clear hv2 hl2 ho2 ho2' R1 L1 hd
  go_wp2_with fail
  have hbnT : ¬ (b = l ∨ W.heap.size ≤ b) := by have := HBL.out; omega
  have T0 : ∀ x : OnW (fun k => k = l ∨ W.heap.size ≤ k) w2, x.w.cell? ⟨b, 0, none⟩ = some (.int .i64 (1 : Int)) := fun x => (H2.out.only x.on hbnT).cell (j := 0) rfl
  have T13 : ∀ x : OnW (fun k => k = l ∨ W.heap.size ≤ k) w2, x.w.cell? ⟨b, 13, none⟩ = some (pAt l) := fun x => (H2.out.only x.on hbnT).cell (j := 13) rfl
  refine wp_region_mixO (fun k => k = l ∨ W.heap.size ≤ k) 11 (.one [0, 1, 2, 3, 4, 5, 6, 7, 8, 9] 10 (.done [])) (by kernel_rfl) (fun c d v a w h => by cases d <;> exact h) (by kernel_rfl) ?_
  simp only [wpMixT, pk_nil, pk_cons, pushAt_zero, pushAt_succ, List.drop_succ_cons, List.drop_zero]
  repeat (go_big_quiet_step (fail))
  refine wpQuiet_nil ?_
  clear T0 T13
  go_wp2_with fail
  have hd := (Below.refl w2.heap.size w2).drew
  refine (uaddB (B := W.heap.size) (R2.out.up hd) hs2 (by have := NL.out; omega) (by omega) NL.out.1 (V2.out.up hd) (L2.out.up hd)).mono ?_
  rintro r w3 ⟨rfl, v3, hv3, hl3, ho3⟩
  have ho3' : Only (fun k => k = l ∨ W.heap.size ≤ k) w2 w3 := ((Only.refl _ w2).drew).trans ho3
  have hs3 : W.heap.size ≤ w3.heap.size := Nat.le_trans hs2 ho3'.size
  go_wp2_with fail
  refine thenQ_normal ⟨⟨⟨_, ho3'⟩, rfl⟩, ?_⟩
  refine wpQuiet_nil ?_
  have H3 := Lib.hid (H2.out.only ho3' hbnT)
  have K3 := Lib.hid (K2.out.only ho3' (by omega))
  have R3 := Lib.hid (R2.out.only ho3' (fun k hk => by have := NL.out; omega))
  have O3 := Lib.hid (O2.out.trans ho3')
  have V3 := Lib.hid hv3
  have L3 := Lib.hid hl3
  clear hv3 hl3 ho3 ho3' R2 L2 V2 O2 H2 K2 hd hs2
  go_wp2_with fail
  have T13 : ∀ x : OnW (fun k => k = l ∨ W.heap.size ≤ k) w3, x.w.cell? ⟨b, 13, none⟩ = some (pAt l) := fun x => (H3.out.only x.on hbnT).cell (j := 13) rfl
  have CB : ∀ x : OnW (fun k => k = l ∨ W.heap.size ≤ k) w3, Blk x.w w.heap.size 156 _ := fun x => K3.out.only x.on (by omega)
  have b0 := fun x => (CB x).cell (j := 0) rfl
  have b1 := fun x => (CB x).cell (j := 1) rfl
  have b2 := fun x => (CB x).cell (j := 2) rfl
  have b3 := fun x => (CB x).cell (j := 3) rfl
  have b4 := fun x => (CB x).cell (j := 4) rfl
  have b5 := fun x => (CB x).cell (j := 5) rfl
  have b6 := fun x => (CB x).cell (j := 6) rfl
  have b7 := fun x => (CB x).cell (j := 7) rfl
  have b8 := fun x => (CB x).cell (j := 8) rfl
  clear CB
  refine wp_region_mixO (fun k => k = l ∨ W.heap.size ≤ k) 6 (.one [0, 1, 2, 3, 4] 5 (.done [])) (by kernel_rfl) (fun c d v a w h => by cases d <;> exact h) (by kernel_rfl) ?_
  simp only [wpMixT, pk_nil, pk_cons, pushAt_zero, pushAt_succ, List.drop_succ_cons, List.drop_zero]
  repeat (go_big_quiet_step (fail))
  refine wpQuiet_nil ?_
  clear T13 b0 b1 b2 b3 b4 b5 b6 b7 b8
  go_wp2_with fail
  have hd := (Below.refl w3.heap.size w3).drew
  refine (uaddC (B := W.heap.size) q HQ.out.1 HQ.out.2 (R3.out.up hd) hs3 (by have := NL.out; omega) (by omega) NL.out.1 (V3.out.up hd) (L3.out.up hd)).mono ?_
  rintro r w4 ⟨rfl, v4, hv4, hl4, ho4⟩
  have ho4' : Only (fun k => k = l ∨ W.heap.size ≤ k) w3 w4 := ((Only.refl _ w3).drew).trans ho4
  go_wp2_with fail
  refine thenQ_normal ⟨⟨⟨_, ho4'⟩, rfl⟩, ?_⟩
  refine wpQuiet_nil ?_
  go_wp2_with fail
  go_end0
  have hO : Only (fun k => k = b ∨ k = l) w w4 := (O1.out.mono (fun k hk => .inl hk)).then (O3.out.trans ho4') (fun k hk hlt => by rcases hk with hk | hk; exact .inr hk; omega)
  exact ⟨rfl, hO, H3.out.only ho4' hbnT, W.heap.size, v4, by omega, Nat.le_trans hs3 ho4'.size, hv4, hl4⟩
end
end Go.Proofs.YtklaeecegkpgmaaGreatDoor
