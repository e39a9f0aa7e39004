import Derived.Test.YtcfdalmllegefaaGreatDoorZ08
import Derived.Test.YtcfdalmllegefaaGreatDoorZ06
import Derived.Test.YtcfdalmllegefaaGreatDoorZ03
import Derived.Test.YtcfdalmllegefaaGreatDoorZ07
/- Package buffer: note of the first insertion into a new buffer. -/
namespace Go.Proofs.YtcfdalmllegefaaGreatDoor
open Go.RowKit
set_option linter.unusedVariables false
set_option linter.unusedSimpArgs false
section
variable {w w' : World} {b : Nat} {S : BS}
set_option maxRecDepth 100000 in
set_option maxHeartbeats 4000000 in
theorem note0_ok {N : Nat} (hR : Rules N w) (h : BufB w b S) (hlg : S.logs = true) (hem : S.empty = true) (htk : S.tick = 0) (hcl : S.clean = 0) (hpt : S.pt = 1) (hNl : N ≤ S.l) (hNb : N ≤ b) (hbl : b ≠ S.l)
    (hL : Blk w S.l 197 (lgC (.slice none 0 0) (.slice none 0 0) 0 0)) (q : Nat) (hq : 1 ≤ q) (hq2 : q ≤ 100000000) :
    Calls Tryz.prog 204 #[pAt b, chV (1, 1, (q : Int))] w fun r w' => r = .returned (.tuple #[]) ∧ Only (fun k => k = b ∨ k = S.l) w w' ∧ BufB w' b { S with empty := false } ∧
      ∃ B v, w.heap.size ≤ B ∧ B ≤ w'.heap.size ∧ ROwn chC 239 9 B w' v [(6, 0, 0), (4, 1, 0), (1, 1, (q : Int))] ∧ Blk w' S.l 197 (lgC (.slice none 0 0) v 3 3) := by
  obtain ⟨pt, lo, hi, mark, marked, ro, fo, tick, clean, t, m, p, o, l, logs, empty, lock, saved, tokens⟩ := S
  simp only at hlg hem htk hcl hpt hNl hbl hL ⊢
  subst hlg hem htk hcl hpt
  have c14 := h.cell (j := 14) rfl
  have c15 := h.cell (j := 15) rfl
  have f15 := h.fz 15
  have c7 : w.cell? ⟨b, 7, none⟩ = some (.int .i64 0) := h.cell (j := 7) rfl
  have c8 : w.cell? ⟨b, 8, none⟩ = some (.int .i64 0) := h.cell (j := 8) rfl
  have c13 := h.cell (j := 13) rfl
  obtain ⟨w0, hw0⟩ : ∃ w0, w.setCell ⟨b, 15, none⟩ (.bool false) = w0 := ⟨_, rfl⟩
  have h0 : BufB w0 b ⟨1, lo, hi, mark, marked, ro, fo, 0, 0, t, m, p, o, l, true, false, lock, saved, tokens⟩ := hw0 ▸ h.set (j := 15) (by simp) (.bool false)
  have hL0 : Blk w0 l 197 (lgC (.slice none 0 0) (.slice none 0 0) 0 0) := hw0 ▸ hL.kept (Below.heap_setCell _ ⟨b, 15, none⟩ _ _ (Ne.symm hbl))
  have ho0 : Only (fun k => k = b) w w0 := hw0 ▸ Only.setCell (S := fun k => k = b) (p := ⟨b, 15, none⟩) (Only.refl _ w) rfl _
  have hR0 : Rules N w0 := hR.only ho0 (fun k hk => hk ▸ hNb)
  have hsz0 : w0.heap.size = w.heap.size := by rw [← hw0]; simp
  have hb1 := below1 w0 (.cells #[.int .i64 1, .int .i64 1, .int .i64 (q : Int), .int .i64 0, .int .i64 0, .string ⟨#[]⟩, .int .i64 0, .int .i64 0, .bool false] 239)
  have hk := Blk.made w0 239 #[.int .i64 1, .int .i64 1, .int .i64 (q : Int), .int .i64 0, .int .i64 0, .string ⟨#[]⟩, .int .i64 0, .int .i64 0, .bool false]
  have hsz : (w0.alloc (.cells #[.int .i64 1, .int .i64 1, .int .i64 (q : Int), .int .i64 0, .int .i64 0, .string ⟨#[]⟩, .int .i64 0, .int .i64 0, .bool false] 239)).heap.size = w.heap.size + 1 := by simp [hsz0]
  have hlw := hL.lt
  have hbw := h.lt
  rw [hsz0] at hk
  have d7 : w0.cell? ⟨b, 7, none⟩ = some (.int .i64 0) := h0.cell (j := 7) rfl
  have d8 : w0.cell? ⟨b, 8, none⟩ = some (.int .i64 0) := h0.cell (j := 8) rfl
  have d13 := h0.cell (j := 13) rfl
  have H1 := Lib.hid (h0.up hb1)
  have R1 := Lib.hid (hR0.up hb1)
  have L1 := Lib.hid (hL0.up hb1)
  have K1 := Lib.hid hk
  have O1 := Lib.hid (ho0.trans (Only.of_below hb1))
  have NL := Lib.hid (And.intro hNl hNb)
  have HQ := Lib.hid (And.intro hq hq2)
  have HBL := Lib.hid hbl
  clear h hR hL hk hb1 h0 hL0 hR0 ho0 hNl hNb hq hq2
  go_enter Tryz.func204, Tryz.ntmps204
  go_wp2_with fail
  go_region
  go_wp2_with fail
  generalize w0.alloc (.cells #[.int .i64 1, .int .i64 1, .int .i64 (q : Int), .int .i64 0, .int .i64 0, .string ⟨#[]⟩, .int .i64 0, .int .i64 0, .bool false] 239) = W at *
  clear c14 c15 f15 c7 c8 c13 hw0 d7 d8 d13
  have hd := (Below.refl W.heap.size W).drew
  refine (uaddA (B := W.heap.size) (R1.out.up hd) (Nat.le_refl _) (by have := NL.out; omega) (by omega) NL.out.1 (L1.out.up hd)).mono ?_
  rintro r w2 ⟨rfl, v2, hv2, hl2, ho2⟩
  have ho2' : Only (fun k => k = l ∨ W.heap.size ≤ k) W w2 := ((Only.refl _ W).drew).trans ho2
  have hs2 := ho2'.size
  have H2 := Lib.hid (H1.out.only ho2' (by have := HBL.out; omega))
  have K2 := Lib.hid (K1.out.only ho2' (by omega))
  have R2 := Lib.hid (R1.out.only ho2' (fun k hk => by have := NL.out; omega))
  have O2 := Lib.hid ho2'
  have V2 := Lib.hid hv2
  have L2 := Lib.hid hl2
  clear hv2 hl2 ho2 ho2' R1 L1 hd
  go_wp2_with fail
  have hbnT : ¬ (b = l ∨ W.heap.size ≤ b) := by have := HBL.out; omega
  have T0 : ∀ x : OnW (fun k => k = l ∨ W.heap.size ≤ k) w2, x.w.cell? ⟨b, 0, none⟩ = some (.int .i64 (1 : Int)) := fun x => (H2.out.only x.on hbnT).cell (j := 0) rfl
  have T13 : ∀ x : OnW (fun k => k = l ∨ W.heap.size ≤ k) w2, x.w.cell? ⟨b, 13, none⟩ = some (pAt l) := fun x => (H2.out.only x.on hbnT).cell (j := 13) rfl
  refine wp_region_mixO (fun k => k = l ∨ W.heap.size ≤ k) 11 (.one [0, 1, 2, 3, 4, 5, 6, 7, 8, 9] 10 (.done [])) (by kernel_rfl) (fun c d v a w h => by cases d <;> exact h) (by kernel_rfl) ?_
  simp only [wpMixT, pk_nil, pk_cons, pushAt_zero, pushAt_succ, List.drop_succ_cons, List.drop_zero]
  repeat (go_big_quiet_step (fail))
  refine wpQuiet_nil ?_
  clear T0 T13
  go_wp2_with fail
  have hd := (Below.refl w2.heap.size w2).drew
  refine (uaddB (B := W.heap.size) (R2.out.up hd) hs2 (by have := NL.out; omega) (by omega) NL.out.1 (V2.out.up hd) (L2.out.up hd)).mono ?_
  rintro r w3 ⟨rfl, v3, hv3, hl3, ho3⟩
  have ho3' : Only (fun k => k = l ∨ W.heap.size ≤ k) w2 w3 := ((Only.refl _ w2).drew).trans ho3
  have hs3 : W.heap.size ≤ w3.heap.size := Nat.le_trans hs2 ho3'.size
  go_wp2_with fail
  refine thenQ_normal ⟨⟨⟨_, ho3'⟩, rfl⟩, ?_⟩
  refine wpQuiet_nil ?_
  have H3 := Lib.hid (H2.out.only ho3' hbnT)
  have K3 := Lib.hid (K2.out.only ho3' (by omega))
  have R3 := Lib.hid (R2.out.only ho3' (fun k hk => by have := NL.out; omega))
  have O3 := Lib.hid (O2.out.trans ho3')
  have V3 := Lib.hid hv3
  have L3 := Lib.hid hl3
  clear hv3 hl3 ho3 ho3' R2 L2 V2 O2 H2 K2 hd hs2
  go_wp2_with fail
  have T13 : ∀ x : OnW (fun k => k = l ∨ W.heap.size ≤ k) w3, x.w.cell? ⟨b, 13, none⟩ = some (pAt l) := fun x => (H3.out.only x.on hbnT).cell (j := 13) rfl
  have CB : ∀ x : OnW (fun k => k = l ∨ W.heap.size ≤ k) w3, Blk x.w w.heap.size 239 _ := fun x => K3.out.only x.on (by omega)
  have b0 := fun x => (CB x).cell (j := 0) rfl
  have b1 := fun x => (CB x).cell (j := 1) rfl
  have b2 := fun x => (CB x).cell (j := 2) rfl
  have b3 := fun x => (CB x).cell (j := 3) rfl
  have b4 := fun x => (CB x).cell (j := 4) rfl
  have b5 := fun x => (CB x).cell (j := 5) rfl
  have b6 := fun x => (CB x).cell (j := 6) rfl
  have b7 := fun x => (CB x).cell (j := 7) rfl
  have b8 := fun x => (CB x).cell (j := 8) rfl
  clear CB
  refine wp_region_mixO (fun k => k = l ∨ W.heap.size ≤ k) 6 (.one [0, 1, 2, 3, 4] 5 (.done [])) (by kernel_rfl) (fun c d v a w h => by cases d <;> exact h) (by kernel_rfl) ?_
  simp only [wpMixT, pk_nil, pk_cons, pushAt_zero, pushAt_succ, List.drop_succ_cons, List.drop_zero]
  repeat (go_big_quiet_step (fail))
  refine wpQuiet_nil ?_
  clear T13 b0 b1 b2 b3 b4 b5 b6 b7 b8
  go_wp2_with fail
  have hd := (Below.refl w3.heap.size w3).drew
  refine (uaddC (B := W.heap.size) q HQ.out.1 HQ.out.2 (R3.out.up hd) hs3 (by have := NL.out; omega) (by omega) NL.out.1 (V3.out.up hd) (L3.out.up hd)).mono ?_
  rintro r w4 ⟨rfl, v4, hv4, hl4, ho4⟩
  have ho4' : Only (fun k => k = l ∨ W.heap.size ≤ k) w3 w4 := ((Only.refl _ w3).drew).trans ho4
  go_wp2_with fail
  refine thenQ_normal ⟨⟨⟨_, ho4'⟩, rfl⟩, ?_⟩
  refine wpQuiet_nil ?_
  go_wp2_with fail
  go_end0
  have hO : Only (fun k => k = b ∨ k = l) w w4 := (O1.out.mono (fun k hk => .inl hk)).then (O3.out.trans ho4') (fun k hk hlt => by rcases hk with hk | hk; exact .inr hk; omega)
  exact ⟨rfl, hO, H3.out.only ho4' hbnT, W.heap.size, v4, by omega, Nat.le_trans hs3 ho4'.size, hv4, hl4⟩
end
end Go.Proofs.YtcfdalmllegefaaGreatDoor
/- Package buffer: put into a new buffer. -/
namespace Go.Proofs.YtcfdalmllegefaaGreatDoor
open Go.RowKit
set_option linter.unusedVariables false
set_option linter.unusedSimpArgs false
/-- A buffer and its text. -/
structure BufT (w : World) (b g : Nat) (S : BS) (cs : List Nat) : Prop where
  blk : BufB w b S
  gap : GapR w S.t g cs
  hbt : b ≠ S.t
  hbg : b ≠ g
  h1 : 1 ≤ S.lo
  h2 : S.lo ≤ S.pt
  h3 : S.pt ≤ S.hi
  h4 : S.hi ≤ cs.length + 1
theorem BufT.r {w : World} {b g : Nat} {S : BS} {cs : List Nat} (h : BufT w b g S cs) : BufR w b cs S.pt S.lo S.hi :=
  ⟨S.t, g, h.blk.cell (j := 0) rfl, h.blk.cell (j := 1) rfl, h.blk.cell (j := 2) rfl, h.blk.cell (j := 9) rfl, h.gap, h.hbt, h.hbg, h.h1, h.h2, h.h3, h.h4⟩
theorem BufT.up {w w' : World} {b g : Nat} {S : BS} {cs : List Nat} (h : BufT w b g S cs) (hb : Below w.heap.size w w') : BufT w' b g S cs := ⟨h.blk.up hb, h.gap.up hb, h.hbt, h.hbg, h.h1, h.h2, h.h3, h.h4⟩
/-- The state behind the first insertion of n characters, point not yet moved. -/
abbrev insS (t m p o l : Nat) (lock : Int) (n pt : Nat) (em : Bool) : BS := ⟨pt, 1, 1 + n, 0, false, false, false, 1, 0, t, m, p, o, l, true, em, lock, .slice none 0 0, 0⟩
section
variable {w w' : World}
set_option maxRecDepth 100000 in
set_option maxHeartbeats 4000000 in
theorem put0_ok {N b t g l mm m p o : Nat} {lock pr ev : Int} (hT : Tabs N w) (hR : Rules N w) (h : Fr w N b t g l mm m p o lock pr ev) (s : ByteArray) (hs : s.size ≤ 10000) (hv : (charsD s.data.toList).isSome = true) (h0 : 0 < (chrs s).length) :
    Calls Tryz.prog 132 #[pAt b, .int .i64 1, .string s, .bool false] w fun r w' => r = .returned (.tuple #[]) ∧ Only (fun k => k = b ∨ k = l ∨ k = t ∨ k = p) w w' ∧ BufB w' b (insS t m p o l lock (chrs s).length 1 false) ∧
      (∃ g', w.heap.size ≤ g' ∧ GapR w' t g' (chrs s)) ∧ ∃ B v, w.heap.size ≤ B ∧ B ≤ w'.heap.size ∧ ROwn chC 239 9 B w' v [(6, 0, 0), (4, 1, 0), (1, 1, ((1 + (chrs s).length : Nat) : Int))] ∧ Blk w' l 197 (lgC (.slice none 0 0) v 3 3) := by
  have hlen := chrs_len s
  have hLn := runesLen s w (by omega) hT
  rw [rlenG_chars hv] at hLn
  obtain ⟨n, hn⟩ : ∃ n, n = (chrs s).length := ⟨_, rfl⟩
  rw [← hn] at hLn h0 hlen ⊢
  have HLn := Lib.hid hLn
  have HN := Lib.hid hn
  have HV := Lib.hid hv
  have HT := Lib.hid hT
  have HR := Lib.hid hR
  have H := Lib.hid h
  have hord := h.ord
  have hbw := h.blk.lt
  have d0 : ((n : Int) == 0) = false := by simp; omega
  have s1 : IntKind.i64.wrap (1 + (n : Int)) = ((1 + n : Nat) : Int) := by rw [IntWalk.i64_in _ (by omega)]; omega
  clear hLn hn hv hT hR h
  go_enter Tryz.func132, Tryz.ntmps132
  go_wp2_with fail
  refine HLn.out.mono ?_
  rintro e w1 ⟨rfl, hb1⟩
  have H1 := Lib.hid (H.out.up hb1)
  have R1 := Lib.hid (HR.out.up hb1)
  have T1 := Lib.hid (HT.out.up hb1)
  have B1 := Lib.hid hb1
  have z1 := hb1.size
  clear hb1 HLn H HR HT
  go_wp2_with fail
  refine (note0_ok R1.out H1.out.blk rfl rfl rfl rfl rfl (by show N ≤ l; omega) (by omega) (by show b ≠ l; omega) H1.out.log (1 + n) (by omega) (by omega)).mono ?_
  rintro e w2 ⟨rfl, ho2, hk2, B, v, hB1, hB2, hv2, hl2⟩
  have t2 := H1.out.txt.only ho2 (by show ¬ (t = b ∨ t = l); omega)
  have m2 : Mk0 w2 m mm := ⟨H1.out.mks.blk.only ho2 (by show ¬ (m = b ∨ m = l); omega), by
    obtain ⟨L, c, q2, e⟩ := H1.out.mks.im
    exact ⟨L, c, ⟨(ho2.block mm (Array.getElem?_eq_some_iff.1 q2.block).1 (by show ¬ (mm = b ∨ mm = l); omega)).trans q2.block, q2.keys, q2.borns, q2.old⟩, e⟩⟩
  have p2 := H1.out.prs.only ho2 (by show ¬ (p = b ∨ p = l); omega)
  have o2 := H1.out.ovs.only ho2 (by show ¬ (o = b ∨ o = l); omega)
  have T2 := Lib.hid (T1.out.only ho2 (fun k hk => by rcases hk with rfl | rfl <;> (try show N ≤ l) <;> omega))
  have z2 := ho2.size
  have K2 := Lib.hid (show BufB w2 b ⟨1, 1, 1, 0, false, false, false, 0, 0, t, m, p, o, l, true, false, lock, .slice none 0 0, 0⟩ from hk2)
  have L2 := Lib.hid hl2
  have V2 := Lib.hid hv2
  have TX := Lib.hid t2
  have MX := Lib.hid m2
  have PX := Lib.hid p2
  have OX := Lib.hid o2
  have O2 := Lib.hid ((Only.of_below B1.out).trans ho2)
  clear ho2 hk2 hv2 hl2 t2 m2 p2 o2 T1 R1 H1 B1
  have q9 := K2.out.cell (j := 9) rfl
  go_wp2_with fail
  refine (ginsert0 T2.out s hs HV.out TX.out (by omega) (by rw [← HN.out]; exact h0)).mono ?_
  rintro e w3 ⟨rfl, ho3, g', hg', hgap⟩
  have K3 := Lib.hid (K2.out.only ho3 (by show ¬ (b = t); omega))
  have L3 := Lib.hid (L2.out.only ho3 (by show ¬ (l = t); omega))
  have V3 := Lib.hid (V2.out.kept (fun k hk => ho3.block k (V2.out.lt hk) (by have := V2.out.base hk; show ¬ (k = t); omega)))
  have M3 := Lib.hid (show Mk0 w3 m mm from ⟨MX.out.blk.only ho3 (by show ¬ (m = t); omega), by
    obtain ⟨L, c, q2, e⟩ := MX.out.im
    exact ⟨L, c, ⟨(ho3.block mm (Array.getElem?_eq_some_iff.1 q2.block).1 (by show ¬ (mm = t); omega)).trans q2.block, q2.keys, q2.borns, q2.old⟩, e⟩⟩)
  have P3 := Lib.hid (PX.out.only ho3 (by show ¬ (p = t); omega))
  have X3 := Lib.hid (OX.out.only ho3 (by show ¬ (o = t); omega))
  have O3 := Lib.hid ((O2.out.mono (T := fun k => k = b ∨ k = l ∨ k = t ∨ k = p) (fun k hk => hk.elim .inl (fun h => .inr (.inl h)))).trans (ho3.mono (fun k hk => .inr (.inr (.inl hk)))))
  have G3 := Lib.hid hgap
  have z3 := ho3.size
  clear ho3 hgap K2 L2 V2 MX PX OX TX O2 T2 q9 HV
  have q10 := K3.out.cell (j := 10) rfl
  go_wp2_with fail
  refine (mins0 1 n false (by omega) (by omega) (by omega) (by omega) M3.out).mono ?_
  rintro e w4 ⟨rfl, hb4⟩
  have K4 := Lib.hid (K3.out.up hb4)
  have L4 := Lib.hid (L3.out.up hb4)
  have V4 := Lib.hid (V3.out.up hb4)
  have P4 := Lib.hid (P3.out.up hb4)
  have X4 := Lib.hid (X3.out.up hb4)
  have G4 := Lib.hid (G3.out.up hb4)
  have O4 := Lib.hid (O3.out.trans (Only.of_below hb4))
  have z4 := hb4.size
  clear hb4 K3 L3 V3 M3 P3 X3 O3 G3 q10
  have q11 := K4.out.cell (j := 11) rfl
  go_wp2_with fail
  refine (pins0 1 n (by omega) (by omega) (by omega) (by omega) P4.out).mono ?_
  rintro e w5 ⟨rfl, ho5, hp5⟩
  have K5 := Lib.hid (K4.out.only ho5 (by show ¬ (b = p); omega))
  have L5 := Lib.hid (L4.out.only ho5 (by show ¬ (l = p); omega))
  have V5 := Lib.hid (V4.out.kept (fun k hk => ho5.block k (V4.out.lt hk) (by have := V4.out.base hk; show ¬ (k = p); omega)))
  have X5 := Lib.hid (X4.out.only ho5 (by show ¬ (o = p); omega))
  have G5 := Lib.hid (G4.out.kept (w' := w5) (ho5.block t (by omega) (by show ¬ (t = p); omega)) (ho5.block g' (by obtain ⟨_, _, _, _, hh⟩ := G4.out; exact hh.hg) (by show ¬ (g' = p); omega)) ho5.size)
  have O5 := Lib.hid (O4.out.trans (ho5.mono (fun k hk => .inr (.inr (.inr hk)))))
  have z5 := ho5.size
  clear ho5 hp5 K4 L4 V4 P4 X4 O4 G4 q11
  have q12 := K5.out.cell (j := 12) rfl
  go_wp2_with fail
  refine (oins0 pr ev 1 n (by omega) (by omega) (by omega) (by omega) X5.out).mono ?_
  rintro e w6 ⟨rfl, hb6⟩
  have K6 := Lib.hid (K5.out.up hb6)
  have L6 := Lib.hid (L5.out.up hb6)
  have V6 := Lib.hid (V5.out.up hb6)
  have G6 := Lib.hid (G5.out.up hb6)
  have O6 := Lib.hid (O5.out.trans (Only.of_below hb6))
  have z6 := hb6.size
  clear hb6 K5 L5 V5 X5 O5 G5 q12
  go_wp2_with fail
  refine (inserted_ok 1 n (by omega) (by omega) w6).mono ?_
  rintro e w7 ⟨cp, rfl, hb7, hE⟩
  have K7 := Lib.hid (K6.out.up hb7)
  have L7 := Lib.hid (L6.out.up hb7)
  have V7 := Lib.hid (V6.out.up hb7)
  have G7 := Lib.hid (G6.out.up hb7)
  have O7 := Lib.hid (O6.out.trans (Only.of_below hb7))
  have z7 := hb7.size
  have E7 := Lib.hid hE
  clear hb7 hE K6 L6 V6 G6 O6
  go_wp2_with fail
  refine (moves0_ok K7.out rfl E7.out false (by show 1 ≤ 2000000; omega) (by show 1 ≤ 2000000; omega) (by show 1 ≤ 2000000; omega) (by show 0 ≤ 2000000; omega) 1 1 (1 + n) 0 (by simp [insF]) (by simp [insF]) (by simp [insF]) (by simp [insF])).mono ?_
  rintro e w8 ⟨rfl, ho8, hk8⟩
  have K8 := Lib.hid (show BufB w8 b ⟨1, 1, 1 + n, 0, false, false, false, 0, 0, t, m, p, o, l, true, false, lock, .slice none 0 0, 0⟩ from hk8)
  have L8 := Lib.hid (L7.out.only ho8 (by show ¬ (l = b); omega))
  have V8 := Lib.hid (V7.out.kept (fun k hk => ho8.block k (V7.out.lt hk) (by have := V7.out.base hk; show ¬ (k = b); omega)))
  have G8 := Lib.hid (G7.out.kept (w' := w8) (ho8.block t (by omega) (by show ¬ (t = b); omega)) (ho8.block g' (by obtain ⟨_, _, _, _, hh⟩ := G7.out; exact hh.hg) (by show ¬ (g' = b); omega)) ho8.size)
  have O8 := Lib.hid (O7.out.trans (ho8.mono (fun k hk => .inl hk)))
  have z8 := ho8.size
  clear ho8 hk8 K7 L7 V7 G7 O7 E7
  have q7 : w8.cell? ⟨b, 7, none⟩ = some (.int .i64 0) := K8.out.cell (j := 7) rfl
  have f7 := K8.out.fz 7
  go_wp2_with fail
  go_end0
  have hk9 := K8.out.set (j := 7) (by simp) (.int .i64 1)
  refine ⟨rfl, O8.out.setCell (p := ⟨b, 7, none⟩) (.inl rfl) _, hk9, ⟨g', by omega, ?_⟩, B, v, by omega, ?_, ?_, ?_⟩
  · rw [HN.out] at *
    exact G8.out.kept (Below.heap_setCell _ _ _ _ (by show t ≠ b; omega)) (Below.heap_setCell _ _ _ _ (by show g' ≠ b; omega)) (by simp)
  · simp; omega
  · exact V8.out.kept (fun k hk => Below.heap_setCell _ _ _ _ (by have := V8.out.base hk; show k ≠ b; omega))
  · exact L8.out.kept (Below.heap_setCell _ _ _ _ (by show l ≠ b; omega))
end
end Go.Proofs.YtcfdalmllegefaaGreatDoor
/- Package undo: close and Boundary behind the first insertion. -/
namespace Go.Proofs.YtcfdalmllegefaaGreatDoor
open Go.RowKit
set_option linter.unusedVariables false
set_option linter.unusedSimpArgs false
/-- A slice of changes as an element. -/
abbrev encG (x : Option Addr × Nat × Nat) : List Value := [.slice x.1 x.2.1 x.2.2]
theorem eltG : Elt encG 194 195 1 24 (.slice none 0 0) := ⟨Tryz.underlying194, by kernel_rfl, rfl, by omega, fun _ => rfl, fun x u hu => by simp at hu; rcases hu with rfl; rfl⟩
section
variable {w w' : World}
set_option maxRecDepth 100000 in
set_option maxHeartbeats 2000000 in
theorem uclose1 {l cap L : Nat} {A : Option Addr} (hL : L = 3) (h : Blk w l 197 (lgC (.slice none 0 0) (.slice A L cap) 3 3)) :
    Calls Tryz.prog 182 #[pAt l] w fun r w' => r = .returned (.tuple #[]) ∧ Only (fun k => k = l) w w' := by
  have hl := h.lt
  have C1 : ∀ x : UpW w.heap.size w, x.w.cell? ⟨l, 1, none⟩ = some (.slice none 0 0) := fun x => (h.up x.up).cell (j := 1) rfl
  have C2 : ∀ x : UpW w.heap.size w, x.w.cell? ⟨l, 2, none⟩ = some (.slice A L cap) := fun x => (h.up x.up).cell (j := 2) rfl
  have c2 := h.cell (j := 2) rfl
  have d0 : (0 < L) = True := by simp; omega
  clear hL
  have H := Lib.hid h
  clear h
  go_enter Tryz.func182, Tryz.ntmps182
  go_wp2_with fail
  clear c2
  obtain ⟨v', w3, happ, hown3, hb3, ho3, hblk3⟩ := append_elem eltG (B := w.heap.size) (w := w.drew) (ROwn.nil _ _ : ROwn encG 195 1 w.heap.size w.drew (.slice none 0 0) []) (Nat.le_refl _) (A, L, cap) (by simp) (by omega)
  have hb3' : Below w.heap.size w w3 := ((Below.refl w.heap.size w).drew).trans hb3
  obtain ⟨A3, cap3, rfl, _, _, _⟩ := hown3.shape eltG
  have HP := Lib.hid happ
  clear happ hown3 hb3 ho3 hblk3
  refine wp_region_mixS (fun k => k = l) [15, 18, 21] (.one [(0, true), (1, false), (2, false), (3, true), (4, true), (5, true), (6, true), (7, true), (8, true), (9, true), (10, true)] 11 (.one [] 12 (.one [(13, false), (14, true)] 15 (.one [(16, false), (17, false)] 18 (.one [(19, false), (20, false)] 21 (.done [])))))) (by kernel_rfl) (fun c d v a w h => by cases d <;> exact h) (by kernel_rfl) ?_
  simp only [wpMixS, wpQ2, pk_nil, pk_cons, pushAt_zero, pushAt_succ, List.contains_cons, List.contains_nil, Bool.false_or, Bool.or_false, Bool.true_or, Bool.or_true, Nat.reduceBEq, Nat.reduceEqDiff]
  repeat (first | go_big_quiet_step (fail) | refine wpQuiet_nil ?_)
  clear C1 C2
  go_wp2_with fail
  refine thenQ_normal ⟨⟨⟨_, (Below.refl _ w).drew.alloc (Nat.le_refl _) _⟩, rfl⟩, ?_⟩
  refine wpList_app_run rfl _ _ _ rfl rfl rfl HP.out ?_
  go_wp2_with fail
  refine thenQ_normal ⟨⟨⟨_, hb3'⟩, rfl⟩, ?_⟩
  repeat (first | go_big_quiet_step (fail) | refine wpQuiet_nil ?_)
  have h3 := H.out.up hb3'
  have ho : Only (fun k => k = l) w w3 := Only.of_below hb3'
  have k1 := h3.cell (j := 1) rfl
  have k2 := h3.cell (j := 2) rfl
  have k5 := h3.cell (j := 5) rfl
  have f1 := h3.fz 1
  have f2 := h3.fz 2
  have f5 := h3.fz 5
  have hs0 : Blk (((w3.setCell ⟨l, 1, none⟩ (.slice A3 1 cap3)).setCell ⟨l, 2, none⟩ (.slice none 0 0)).setCell ⟨l, 5, none⟩ (.int .i64 0)) l 197 (lgC (.slice A3 1 cap3) (.slice none 0 0) 3 0) :=
    ((h3.set (j := 1) (by simp) (.slice A3 1 cap3)).set (j := 2) (by simp) (.slice none 0 0)).set (j := 5) (by simp) (.int .i64 0)
  have HS := Lib.hid hs0
  clear hs0 h3
  go_wp2_with fail
  refine thenQ_normal ⟨⟨⟨_, ho.setCell (p := ⟨l, 1, none⟩) rfl _⟩, rfl⟩, ?_⟩
  repeat (first | go_big_quiet_step (fail) | refine wpQuiet_nil ?_)
  go_wp2_with fail
  refine thenQ_normal ⟨⟨⟨_, (ho.setCell (p := ⟨l, 1, none⟩) rfl _).setCell (p := ⟨l, 2, none⟩) rfl _⟩, rfl⟩, ?_⟩
  repeat (first | go_big_quiet_step (fail) | refine wpQuiet_nil ?_)
  go_wp2_with fail
  refine thenQ_normal ⟨⟨⟨_, ((ho.setCell (p := ⟨l, 1, none⟩) rfl _).setCell (p := ⟨l, 2, none⟩) rfl _).setCell (p := ⟨l, 5, none⟩) rfl _⟩, rfl⟩, ?_⟩
  have HO := Lib.hid (((ho.setCell (p := ⟨l, 1, none⟩) rfl (.slice A3 1 cap3)).setCell (p := ⟨l, 2, none⟩) rfl (.slice none 0 0)).setCell (p := ⟨l, 5, none⟩) rfl (.int .i64 0))
  clear k1 k2 k5 f1 f2 f5 ho HP H hb3'
  generalize ((w3.setCell ⟨l, 1, none⟩ (.slice A3 1 cap3)).setCell ⟨l, 2, none⟩ (.slice none 0 0)).setCell ⟨l, 5, none⟩ (.int .i64 0) = W at *
  have c0 := HS.out.cell (j := 0) rfl
  have c4 := HS.out.cell (j := 4) rfl
  go_wp2_with fail
  go_loopw [3] (fun _ wr => W = wr) (fun _ _ => 0)
  case atStart => rfl
  case round =>
    subst hrel
    go_wp2_with fail
    go_region
    go_wp2_with fail
    go_end0
    exact ⟨rfl, HO.out.drew⟩
set_option maxRecDepth 100000 in
set_option maxHeartbeats 2000000 in
theorem uclose0 {l : Nat} (h : Blk w l 197 (lgC (.slice none 0 0) (.slice none 0 0) 0 0)) :
    Calls Tryz.prog 182 #[pAt l] w fun r w' => r = .returned (.tuple #[]) ∧ Only (fun k => k = l) w w' := by
  have c0 := h.cell (j := 0) rfl
  have c2 := h.cell (j := 2) rfl
  have c4 := h.cell (j := 4) rfl
  clear h
  go_enter Tryz.func182, Tryz.ntmps182
  go_wp2_with fail
  go_loopw [3] (fun _ wr => w = wr) (fun _ _ => 0)
  case atStart => rfl
  case round =>
    subst hrel
    go_wp2_with fail
    go_region
    go_wp2_with fail
    go_end0
    exact ⟨rfl, (Only.refl _ w).drew⟩
/-- The log of a new buffer, before or behind its first change. -/
def LogF (w : World) (l : Nat) : Prop := Blk w l 197 (lgC (.slice none 0 0) (.slice none 0 0) 0 0) ∨ ∃ A cap, Blk w l 197 (lgC (.slice none 0 0) (.slice A 3 cap) 3 3)
theorem uclose_ok {l : Nat} (h : LogF w l) : Calls Tryz.prog 182 #[pAt l] w fun r w' => r = .returned (.tuple #[]) ∧ Only (fun k => k = l) w w' := by
  rcases h with h | ⟨A, cap, h⟩
  · exact uclose0 h
  · exact uclose1 rfl h
theorem LogF.up {l : Nat} (h : LogF w l) (hb : Below w.heap.size w w') : LogF w' l := by
  rcases h with h | ⟨A, cap, h⟩
  · exact .inl (h.up hb)
  · exact .inr ⟨A, cap, h.up hb⟩
theorem LogF.none {l : Nat} (h : LogF w l) : Calls Tryz.prog 181 #[pAt l] w fun e w' => e = .returned (.bool false) ∧ w = w' := by
  rcases h with h | ⟨A, cap, h⟩
  · exact unone _ _ _ _ h
  · exact unone _ _ _ _ h
set_option maxHeartbeats 1000000 in
theorem ubound_ok {l : Nat} (h : LogF w l) : Calls Tryz.prog 111 #[pAt l] w fun r w' => r = .returned (.int .i64 0) ∧ Only (fun k => k = l) w w' := by
  have HN := Lib.hid h.none
  have HC := Lib.hid (uclose_ok h)
  clear h
  go_enter Tryz.func111, Tryz.ntmps111
  go_wp2_with fail
  refine HN.out.mono ?_
  rintro e w' ⟨rfl, rfl⟩
  go_wp2_with fail
  refine HC.out.mono ?_
  rintro e w' ⟨rfl, ho⟩
  go_wp2_with fail
  go_ret
  exact ⟨rfl, ho⟩
end
end Go.Proofs.YtcfdalmllegefaaGreatDoor
/- Package buffer: gapOpen. -/
namespace Go.Proofs.YtcfdalmllegefaaGreatDoor
open Go.RowKit
set_option linter.unusedVariables false
set_option linter.unusedSimpArgs false
def gapB (S : BS) (f : Int → Int → Option (Int × Int)) (at_ : Int) : Bool := S.fo || (!S.ro && !(lockB (f at_ S.lock) && lockB (f (at_ - 1) S.lock)))
section
variable {w w' : World} {b : Nat} {S : BS} {f : Int → Int → Option (Int × Int)}
set_option maxRecDepth 100000 in
set_option maxHeartbeats 2000000 in
theorem gapOpen1_ok {k0 k1 : Nat} (h : BufB w b S) (hG : GetAt w S.p f) (at_ : Int) (ha0 : 0 ≤ at_) (ha1 : at_ ≤ 1000000000) (h0 : w.cell? ⟨k0, 0, none⟩ = some (pAt b)) (h1 : w.cell? ⟨k1, 0, none⟩ = some (.int .i64 at_)) :
    Calls Tryz.prog 198 #[pAt k0, pAt k1] w fun r w2 => r = .returned (.bool (gapB S f at_)) ∧ Below w.heap.size w w2 := by
  have c5 : w.cell? ⟨b, 5, none⟩ = some (.bool S.ro) := h.cell (j := 5) rfl
  have c6 : w.cell? ⟨b, 6, none⟩ = some (.bool S.fo) := h.cell (j := 6) rfl
  have HB := Lib.hid h
  have HG := Lib.hid hG
  have HH0 := Lib.hid h0
  have HH1 := Lib.hid h1
  have s1 : IntKind.i64.wrap (at_ - 1) = at_ - 1 := IntWalk.i64_in _ (by omega)
  clear h hG ha0 ha1
  obtain ⟨R, hR⟩ : ∃ R, gapB S f at_ = R := ⟨_, rfl⟩
  rw [hR]
  unfold gapB at hR
  cases hf : S.fo with
  | true =>
    rw [hf] at c6 hR
    have hRt : R = true := by rw [← hR]; rfl
    subst hRt
    clear hR
    go_enter Tryz.func198, Tryz.ntmps198
    go_wp2_with fail
    go_ret
    exact ⟨rfl, Below.refl _ _⟩
  | false =>
    rw [hf] at c6 hR
    cases hr : S.ro with
    | true =>
      rw [hr] at c5 hR
      have hRt : R = false := by rw [← hR]; rfl
      subst hRt
      clear hR
      go_enter Tryz.func198, Tryz.ntmps198
      go_wp2_with fail
      go_ret
      exact ⟨rfl, Below.refl _ _⟩
    | false =>
      rw [hr] at c5 hR
      have HL := Lib.hid (locked_ok HB.out HG.out at_)
      cases hl : lockB (f at_ S.lock) with
      | false =>
        rw [hl] at hR HL
        have hRt : R = true := by rw [← hR]; rfl
        subst hRt
        clear hR
        go_enter Tryz.func198, Tryz.ntmps198
        go_wp2_with fail
        refine HL.out.mono ?_
        rintro r w1 ⟨rfl, hb1⟩
        go_wp2_with fail
        go_ret
        exact ⟨rfl, hb1⟩
      | true =>
        rw [hl] at hR HL
        cases hl2 : lockB (f (at_ - 1) S.lock) with
        | false =>
          rw [hl2] at hR
          have hRt : R = true := by rw [← hR]; rfl
          have HL2 := Lib.hid hl2
          subst hRt
          clear hR
          go_enter Tryz.func198, Tryz.ntmps198
          go_wp2_with fail
          refine HL.out.mono ?_
          rintro r w1 ⟨rfl, hb1⟩
          have g0 := cell_up HH0.out hb1
          have g1 := cell_up HH1.out hb1
          have hc := locked_ok (HB.out.up hb1) (HG.out.up hb1) (at_ - 1)
          rw [HL2.out] at hc
          go_wp2_with fail
          refine hc.mono ?_
          rintro r w2 ⟨rfl, hb2⟩
          go_wp2_with fail
          go_ret
          exact ⟨rfl, up2 hb1 hb2⟩
        | true =>
          rw [hl2] at hR
          have hRt : R = false := by rw [← hR]; rfl
          have HL2 := Lib.hid hl2
          subst hRt
          clear hR
          go_enter Tryz.func198, Tryz.ntmps198
          go_wp2_with fail
          refine HL.out.mono ?_
          rintro r w1 ⟨rfl, hb1⟩
          have g0 := cell_up HH0.out hb1
          have g1 := cell_up HH1.out hb1
          have hc := locked_ok (HB.out.up hb1) (HG.out.up hb1) (at_ - 1)
          rw [HL2.out] at hc
          go_wp2_with fail
          refine hc.mono ?_
          rintro r w2 ⟨rfl, hb2⟩
          go_wp2_with fail
          go_ret
          exact ⟨rfl, up2 hb1 hb2⟩
set_option maxHeartbeats 1000000 in
theorem gapOpen_ok (h : BufB w b S) (hG : GetAt w S.p f) (at_ : Int) : Calls Tryz.prog 129 #[pAt b, .int .i64 at_] w fun r w' =>
    ∃ ke kf, r = .returned (unlC ke kf (if gapB S f at_ then 0 else 14)).val ∧ Below w.heap.size w w' ∧ ChkAt w' (0 ≤ at_ ∧ at_ ≤ 1000000000) (unlC ke kf (if gapB S f at_ then 0 else 14)) := by
  have HB := Lib.hid h
  have HG := Lib.hid hG
  clear h hG
  obtain ⟨E, hE⟩ : ∃ E : Int, (if gapB S f at_ then (0 : Int) else 14) = E := ⟨_, rfl⟩
  rw [hE]
  have HE := Lib.hid hE
  clear hE
  go_enter Tryz.func129, Tryz.ntmps129
  go_wp2_with fail
  have hb3 := below2 w (.cells #[pAt b] 22) (.cells #[.int .i64 at_] 3)
  obtain ⟨a0, a1⟩ := al2 w (pAt b) (.int .i64 at_) 22 3
  generalize (w.alloc (.cells #[pAt b] 22)).alloc (.cells #[.int .i64 at_] 3) = W at *
  refine (unless_ok 14 198 #[] #[pAt w.heap.size, pAt (w.heap.size + 1)] W).mono ?_
  rintro r w1 ⟨rfl, hb1, he, hf⟩
  go_wp2_with fail
  go_ret
  refine ⟨_, _, rfl, up2 hb3 hb1, HE.out ▸ ChkAt.unless (p := gapB S f at_) (enters_mk Tryz.func198 (by kernel_rfl) rfl) he hf fun hp w2 hb2 => ?_⟩
  exact gapOpen1_ok (((HB.out.up hb3).up hb1).up hb2) (((HG.out.up hb3).up hb1).up hb2) at_ hp.1 hp.2 (cell_up a0 (up2 hb1 hb2)) (cell_up a1 (up2 hb1 hb2))
end
end Go.Proofs.YtcfdalmllegefaaGreatDoor
/- Package buffer: Insert into a new buffer; Boundary. -/
namespace Go.Proofs.YtcfdalmllegefaaGreatDoor
open Go.RowKit
set_option linter.unusedVariables false
set_option linter.unusedSimpArgs false
section
variable {w w' : World}
set_option maxHeartbeats 1000000 in
theorem putE {N b : Nat} (hT : Tabs N w) (s : ByteArray) (hs : s.size ≤ 10000) (hv : (charsD s.data.toList).isSome = true) (h0 : (chrs s).length = 0) (at_ : Int) (bf : Bool) :
    Calls Tryz.prog 132 #[pAt b, .int .i64 at_, .string s, .bool bf] w fun r w' => r = .returned (.tuple #[]) ∧ Below w.heap.size w w' := by
  have hLn := runesLen s w (by omega) hT
  rw [rlenG_chars hv, h0] at hLn
  have HLn := Lib.hid hLn
  clear hLn hT h0 hv hs
  go_enter Tryz.func132, Tryz.ntmps132
  go_wp2_with fail
  refine HLn.out.mono ?_
  rintro e w1 ⟨rfl, hb1⟩
  go_wp2_with fail
  refine bodyPost_ret (results_none rfl _ _ _) rfl ?_
  exact ⟨rfl, hb1⟩
theorem gapE {t g : Nat} (h : Blk w t 192 (txtC g 0 0 0 0 (.slice none 0 0))) (hgt : g < t) : GapR w t g [] :=
  ⟨[], 0, 0, 0, h.cell (j := 0) rfl, h.cell (j := 1) rfl, h.cell (j := 2) rfl, Nat.le_refl _, by omega, by have := h.lt; omega, fun i z hz => by simp at hz, Nat.le_refl _, Nat.le_refl _, rfl, fun c hc => by cases hc⟩
/-- The buffer's cells behind the first insertion. -/
def aftS (t m p o l : Nat) (lock : Int) (n : Nat) (em : Bool) : BS := if n = 0 then { freshS t m p o l lock with empty := em } else insS t m p o l lock n (1 + n) em
/-- What put does to a new buffer, both ways. -/
theorem put_any {N b t g l mm m p o : Nat} {lock pr ev : Int} (hT : Tabs N w) (hR : Rules N w) (h : Fr w N b t g l mm m p o lock pr ev) (s : ByteArray) (hs : s.size ≤ 10000) (hv : (charsD s.data.toList).isSome = true) :
    Calls Tryz.prog 132 #[pAt b, .int .i64 1, .string s, .bool false] w fun r w' => r = .returned (.tuple #[]) ∧ Only (fun k => k = b ∨ k = l ∨ k = t ∨ k = p) w w' ∧
      BufB w' b { aftS t m p o l lock (chrs s).length (decide ((chrs s).length = 0)) with pt := 1 } ∧ (∃ g', g ≤ g' ∧ g' ≠ b ∧ g' ≠ l ∧ GapR w' t g' (chrs s)) ∧ LogF w' l := by
  by_cases h0 : (chrs s).length = 0
  · refine (putE hT s hs hv h0 1 false).mono ?_
    rintro r w' ⟨rfl, hb⟩
    have h' := h.up hb
    have e : chrs s = [] := List.eq_nil_of_length_eq_zero h0
    have hord := h.ord
    rw [e]
    exact ⟨rfl, Only.of_below hb, h'.blk, ⟨g, Nat.le_refl _, by omega, by omega, gapE h'.txt (by omega)⟩, .inl h'.log⟩
  · refine (put0_ok hT hR h s hs hv (by omega)).mono ?_
    rintro r w' ⟨rfl, ho, hk, ⟨g', hg', hgap⟩, B, v, _, _, hv, hl⟩
    have hord := h.ord
    have hbw := h.blk.lt
    refine ⟨rfl, ho, ?_, ⟨g', by omega, by omega, by omega, hgap⟩, ?_⟩
    · unfold aftS
      rw [if_neg h0, decide_eq_false h0]
      exact hk
    · obtain ⟨A, cap, rfl, _, _, _⟩ := hv.shape eltC
      exact .inr ⟨A, cap, hl⟩
theorem freshGet {N b t g l mm m p o : Nat} {lock pr ev : Int} (h : Fr w N b t g l mm m p o lock pr ev) : GetAt w p (fun _ _ => none) := getAt0 h.prs
theorem al_fs (w : World) (x y z : Value) (T : TypeId) : ((w.alloc (.cells #[x, y, z] T)).heap[w.heap.size]?) = some (.cells #[x, y, z] T) := (MapKept.heap_alloc w _).1
set_option maxRecDepth 100000 in
set_option maxHeartbeats 4000000 in
theorem insert_ok {N b t g l mm m p o : Nat} {lock pr ev : Int} (hT : Tabs N w) (hR : Rules N w) (h : Fr w N b t g l mm m p o lock pr ev) (s : ByteArray) (hs : s.size ≤ 10000) (hv : (charsD s.data.toList).isSome = true) :
    Calls Tryz.prog 110 #[pAt b, .string s, .bool false] w fun r w' => r = .returned (.int .i64 0) ∧ Only (fun k => k = b ∨ k = l ∨ k = t ∨ k = p) w w' ∧
      BufB w' b (aftS t m p o l lock (chrs s).length (decide ((chrs s).length = 0))) ∧ (∃ g', g ≤ g' ∧ g' ≠ b ∧ g' ≠ l ∧ GapR w' t g' (chrs s)) ∧ LogF w' l := by
  have hlen := chrs_len s
  have HV := Lib.hid hv
  have HT := Lib.hid hT
  have HR := Lib.hid hR
  have H := Lib.hid h
  have HN := Lib.hid (bnoneB h.blk)
  have c0 : w.cell? ⟨b, 0, none⟩ = some (.int .i64 1) := h.blk.cell (j := 0) rfl
  have hord := h.ord
  have hvl : vld s = true := by rw [vld_chars]; exact hv
  have hrl := rlenG_chars hv
  have HVL := Lib.hid (And.intro hvl hrl)
  clear hT hR h hv hvl hrl
  go_enter Tryz.func110, Tryz.ntmps110
  go_wp2_with fail
  refine HN.out.mono ?_
  rintro e w0 ⟨rfl, rfl⟩
  go_wp2_with fail
  refine (within_ok H.out.blk 1 1).mono ?_
  rintro e w1 ⟨k1, k2, rfl, hb1, hc1⟩
  change ChkAt w1 True (unlC k1 k2 0) at hc1
  have C1 := Lib.hid hc1
  have B1 := Lib.hid hb1
  clear hc1 hb1 HN
  go_wp2_with fail
  refine (gapOpen_ok (H.out.blk.up B1.out) (freshGet (H.out.up B1.out)) 1).mono ?_
  rintro e w2 ⟨k3, k4, rfl, hb2, hc2⟩
  change ChkAt w2 _ (unlC k3 k4 0) at hc2
  have C2 := Lib.hid hc2
  have B2 := Lib.hid (up2 B1.out hb2)
  have C12 := Lib.hid (C1.out.up hb2)
  clear hc2 hb2 C1 B1
  go_wp2_with fail
  refine (fits_ok (n := 0) (HT.out.up B2.out) (H.out.blk.up B2.out) s (by omega) 0 (by omega) (fun w3 hb3 => gsize0 _ ((H.out.up B2.out).up hb3).txt)).mono ?_
  rintro e w3 ⟨k5, k6, k7, rfl, hb3, hc3⟩
  have hfs : fitsE s 0 0 = 0 := by
    unfold fitsE
    rw [if_pos HVL.out.1, HVL.out.2, if_neg (by omega)]
  rw [hfs] at hc3 ⊢
  clear hfs
  have C3 := Lib.hid hc3
  have B3 := Lib.hid (up2 B2.out hb3)
  have C13 := Lib.hid (C12.out.up hb3)
  have C23 := Lib.hid (C2.out.up hb3)
  clear hc3 hb3 C2 B2 C12
  go_wp2_with fail
  have hb4 := below1 w3 (.cells #[(unlC k1 k2 0).val, (unlC k3 k4 0).val, (fitC k5 k6 k7 0).val] 69)
  have hR3 := RSl.arr (enc := encK) (zs := [unlC k1 k2 0, unlC k3 k4 0, fitC k5 k6 k7 0]) (MapKept.heap_alloc w3 (.cells #[(unlC k1 k2 0).val, (unlC k3 k4 0).val, (fitC k5 k6 k7 0).val] 69)).1 rfl
  have HF := first_any hR3 3 (by simp) (by
    intro c hc
    simp only [List.mem_cons, List.not_mem_nil, or_false] at hc
    rcases hc with rfl | rfl | rfl
    · exact C13.out.en
    · exact C23.out.en
    · exact C3.out.en) (by
    intro i c w4 hi hz hb
    rcases i with _ | _ | _ | i
    · cases hi; exact C13.out.run trivial w4 (up2 hb4 hb)
    · cases hi; exact C23.out.run ⟨by omega, by omega⟩ w4 (up2 hb4 hb)
    · cases hi; exact C3.out.run ⟨by omega, by omega⟩ w4 (up2 hb4 hb)
    · simp at hi)
  have B4 := Lib.hid (up2 B3.out hb4)
  have HF := Lib.hid HF
  clear hR3 hb4 C13 C23 C3 B3
  refine HF.out.mono ?_
  rintro e w5 ⟨rfl, hb5⟩
  have B5 := Lib.hid (up2 B4.out hb5)
  clear hb5 B4 HF
  simp only [firstE]
  go_wp2_with fail
  refine (put_any (HT.out.up B5.out) (HR.out.up B5.out) (H.out.up B5.out) s hs HV.out).mono ?_
  rintro e w6 ⟨rfl, ho6, hk6, hg6, hl6⟩
  have K6 := Lib.hid hk6
  have T6 := Lib.hid (((HT.out.up B5.out).only ho6 (fun k hk => by omega)))
  have G6 := Lib.hid hg6
  have L6 := Lib.hid hl6
  have O6 := Lib.hid ((Only.of_below B5.out).trans ho6)
  have z6 := ho6.size
  clear ho6 hk6 hg6 hl6 HT HR H
  have hLn := runesLen s w6 (by omega) T6.out
  rw [HVL.out.2] at hLn
  go_wp2_with fail
  refine hLn.mono ?_
  rintro e w7 ⟨rfl, hb7⟩
  have hk7 := K6.out.up hb7
  have q0 := hk7.cell (j := 0) rfl
  have f0 := hk7.fz 0
  have K7 := Lib.hid hk7
  have G7 := Lib.hid (show ∃ g', g ≤ g' ∧ g' ≠ b ∧ g' ≠ l ∧ GapR w7 t g' (chrs s) from by obtain ⟨g', h1, h2, h2', h3⟩ := G6.out; exact ⟨g', h1, h2, h2', h3.up hb7⟩)
  have L7 := Lib.hid (L6.out.up hb7)
  have O7 := Lib.hid (O6.out.trans (Only.of_below hb7))
  have s1 : IntKind.i64.wrap (1 + ((chrs s).length : Int)) = ((1 + (chrs s).length : Nat) : Int) := by rw [IntWalk.i64_in _ (by omega)]; omega
  have hbl : b ≠ l := by omega
  clear hk7 hb7 hLn K6 G6 L6 O6 T6
  go_wp2_with fail
  go_ret
  have hk8 := K7.out.set (j := 0) (by simp) (.int .i64 ((1 + (chrs s).length : Nat) : Int))
  refine ⟨rfl, O7.out.setCell (p := ⟨b, 0, none⟩) (.inl rfl) _, ?_, ?_, ?_⟩
  · have e : { ({ aftS t m p o l lock (chrs s).length (decide ((chrs s).length = 0)) with pt := 1 } : BS) with pt := 1 + (chrs s).length } = aftS t m p o l lock (chrs s).length (decide ((chrs s).length = 0)) := by
      unfold aftS
      split
      · rename_i h0; rw [h0]
      · rfl
    rw [← e]; exact hk8
  · obtain ⟨g', h1, h2, h2', h3⟩ := G7.out
    exact ⟨g', h1, h2, h2', h3.kept (Below.heap_setCell _ _ _ _ (by show t ≠ b; omega)) (Below.heap_setCell _ _ _ _ (by show g' ≠ b; omega)) (by simp)⟩
  · have hkk : (w7.setCell ⟨b, 0, none⟩ (.int .i64 ((1 + (chrs s).length : Nat) : Int))).heap[l]? = w7.heap[l]? := Below.heap_setCell _ _ _ _ (by show l ≠ b; omega)
    rcases L7.out with hl | ⟨A, cap, hl⟩
    · exact .inl (hl.kept hkk)
    · exact .inr ⟨A, cap, hl.kept hkk⟩
end
end Go.Proofs.YtcfdalmllegefaaGreatDoor
/- Package buffer: Insert, Boundary, Size, Narrow. -/
namespace Go.Proofs.YtcfdalmllegefaaGreatDoor
open Go.RowKit
set_option linter.unusedVariables false
set_option linter.unusedSimpArgs false
section
variable {w w' : World} {b g : Nat} {S : BS} {cs : List Nat}
set_option maxHeartbeats 1000000 in
theorem Insert_ok {N b t g l mm m p o : Nat} {lock pr ev : Int} (hT : Tabs N w) (hR : Rules N w) (h : Fr w N b t g l mm m p o lock pr ev) (s : ByteArray) (hs : s.size ≤ 10000) (hv : (charsD s.data.toList).isSome = true) :
    Calls Tryz.prog 42 #[pAt b, .string s] w fun r w' => r = .returned (.int .i64 0) ∧ Only (fun k => k = b ∨ k = l ∨ k = t ∨ k = p) w w' ∧
      BufB w' b (aftS t m p o l lock (chrs s).length (decide ((chrs s).length = 0))) ∧ (∃ g', g ≤ g' ∧ g' ≠ b ∧ g' ≠ l ∧ GapR w' t g' (chrs s)) ∧ LogF w' l := by
  have HI := Lib.hid (insert_ok hT hR h s hs hv)
  clear hT hR h hs hv
  go_enter Tryz.func42, Tryz.ntmps42
  go_wp2_with fail
  refine HI.out.mono ?_
  rintro r w' ⟨rfl, h1, h2⟩
  have H2 := Lib.hid h2
  clear h2
  go_wp2_with fail
  go_ret
  exact ⟨rfl, h1, H2.out⟩
set_option maxHeartbeats 1000000 in
theorem bBoundary_ok (h : BufB w b S) (hlg : S.logs = true) (hL : LogF w S.l) (hbl : b ≠ S.l) : Calls Tryz.prog 43 #[pAt b] w fun r w' => r = .returned (.int .i64 0) ∧ Only (fun k => k = b ∨ k = S.l) w w' ∧ BufB w' b { S with empty := true } := by
  have c14 : w.cell? ⟨b, 14, none⟩ = some (.bool true) := by rw [← hlg]; exact h.cell (j := 14) rfl
  have c13 := h.cell (j := 13) rfl
  have HN := Lib.hid (bnoneB h)
  have HL := Lib.hid (ubound_ok hL)
  have H := Lib.hid h
  clear h hL
  go_enter Tryz.func43, Tryz.ntmps43
  go_wp2_with fail
  refine HN.out.mono ?_
  rintro r w1 ⟨rfl, rfl⟩
  go_wp2_with fail
  refine HL.out.mono ?_
  rintro r w1 ⟨rfl, ho⟩
  have hk := H.out.only ho hbl
  have q15 := hk.cell (j := 15) rfl
  have f15 := hk.fz 15
  have HK := Lib.hid hk
  clear hk
  go_wp2_with fail
  go_ret
  exact ⟨rfl, (ho.mono (T := fun k => k = b ∨ k = S.l) (fun k hk => .inr hk)).setCell (p := ⟨b, 15, none⟩) (.inl rfl) _, HK.out.set (j := 15) (by simp) (.bool true)⟩
set_option maxHeartbeats 1000000 in
theorem bSize_ok (h : BufT w b g S cs) : Calls Tryz.prog 77 #[pAt b] w fun r w' => r = .returned (.int .i64 cs.length) ∧ Below w.heap.size w w' := bsize h.r
/-! ### Narrow -/
def mayB (n : Nat) (x y : Int) : Bool := decide (1 ≤ x) && decide (x ≤ y) && decide (y ≤ (n : Int) + 1)
set_option maxHeartbeats 1000000 in
theorem may_ok (h : BufT w b g S cs) (x y : Int) : Calls Tryz.prog 238 #[pAt b, .int .i64 x, .int .i64 y] w fun r w2 => r = .returned (.bool (mayB cs.length x y)) ∧ Below w.heap.size w w2 := by
  have hn := h.gap.len
  have HS := Lib.hid (gsize h.gap)
  have c9 := h.blk.cell (j := 9) rfl
  have s1 : IntKind.i64.wrap ((cs.length : Int) + 1) = (cs.length : Int) + 1 := IntWalk.i64_in _ (by omega)
  clear h
  unfold mayB
  obtain ⟨n, hnn⟩ : ∃ n : Int, (cs.length : Int) + 1 = n := ⟨_, rfl⟩
  rw [hnn] at s1 ⊢
  cases d1 : decide (1 ≤ x) with
  | false =>
    go_enter Tryz.func238, Tryz.ntmps238
    go_wp2_with fail
    go_ret
    exact ⟨rfl, Below.refl _ _⟩
  | true =>
    cases d2 : decide (x ≤ y) with
    | false =>
      go_enter Tryz.func238, Tryz.ntmps238
      go_wp2_with fail
      go_ret
      exact ⟨rfl, Below.refl _ _⟩
    | true =>
      cases d3 : decide (y ≤ n) with
      | false =>
        go_enter Tryz.func238, Tryz.ntmps238
        go_wp2_with fail
        refine HS.out.mono ?_
        rintro r w1 ⟨rfl, hb1⟩
        go_wp2_with fail
        go_ret
        exact ⟨rfl, hb1⟩
      | true =>
        go_enter Tryz.func238, Tryz.ntmps238
        go_wp2_with fail
        refine HS.out.mono ?_
        rintro r w1 ⟨rfl, hb1⟩
        go_wp2_with fail
        go_ret
        exact ⟨rfl, hb1⟩
set_option maxHeartbeats 1000000 in
theorem valid1_ok {k0 k1 k2 : Nat} (h : BufT w b g S cs) (x y : Int) (h0 : w.cell? ⟨k0, 0, none⟩ = some (pAt b)) (h1 : w.cell? ⟨k1, 0, none⟩ = some (.int .i64 x)) (h2 : w.cell? ⟨k2, 0, none⟩ = some (.int .i64 y)) :
    Calls Tryz.prog 237 #[pAt k0, pAt k1, pAt k2] w fun r w2 => r = .returned (.bool (mayB cs.length x y)) ∧ Below w.heap.size w w2 := by
  have HR := Lib.hid (may_ok h x y)
  clear h
  go_enter Tryz.func237, Tryz.ntmps237
  go_wp2_with fail
  refine HR.out.mono ?_
  rintro r w1 ⟨rfl, hb1⟩
  go_wp2_with fail
  go_ret
  exact ⟨rfl, hb1⟩
set_option maxHeartbeats 1000000 in
theorem valid_ok (h : BufT w b g S cs) (x y : Int) : Calls Tryz.prog 164 #[pAt b, .int .i64 x, .int .i64 y] w fun r w' =>
    ∃ ke kf, r = .returned (unlC ke kf (if mayB cs.length x y then 0 else 3)).val ∧ Below w.heap.size w w' ∧ ChkAt w' True (unlC ke kf (if mayB cs.length x y then 0 else 3)) := by
  have HB := Lib.hid h
  clear h
  obtain ⟨E, hE⟩ : ∃ E : Int, (if mayB cs.length x y then (0 : Int) else 3) = E := ⟨_, rfl⟩
  rw [hE]
  have HE := Lib.hid hE
  clear hE
  go_enter Tryz.func164, Tryz.ntmps164
  go_wp2_with fail
  have hb3 := below3 w (.cells #[pAt b] 22) (.cells #[.int .i64 x] 3) (.cells #[.int .i64 y] 3)
  obtain ⟨a0, a1, a2⟩ := al3 w (pAt b) (.int .i64 x) (.int .i64 y) 22 3 3
  generalize ((w.alloc (.cells #[pAt b] 22)).alloc (.cells #[.int .i64 x] 3)).alloc (.cells #[.int .i64 y] 3) = W at *
  refine (unless_ok 3 237 #[] #[pAt w.heap.size, pAt (w.heap.size + 1), pAt (w.heap.size + 2)] W).mono ?_
  rintro r w1 ⟨rfl, hb1, he, hf⟩
  go_wp2_with fail
  go_ret
  refine ⟨_, _, rfl, up2 hb3 hb1, HE.out ▸ ChkAt.unless (p := mayB cs.length x y) (enters_mk Tryz.func237 (by kernel_rfl) rfl) he hf fun _ w2 hb2 => ?_⟩
  exact valid1_ok (((HB.out.up hb3).up hb1).up hb2) x y (cell_up a0 (up2 hb1 hb2)) (cell_up a1 (up2 hb1 hb2)) (cell_up a2 (up2 hb1 hb2))
set_option maxHeartbeats 1000000 in
theorem stand_ok (h : BufB w b S) (x : Nat) : Calls Tryz.prog 165 #[pAt b, .int .i64 x] w fun r w' => r = .returned (.tuple #[]) ∧ Only (fun k => k = b) w w' ∧ BufB w' b { S with pt := min (max x S.lo) S.hi } := by
  have c0 := h.cell (j := 0) rfl
  have c1 : w.cell? ⟨b, 1, none⟩ = some (.int .i64 (S.lo : Int)) := h.cell (j := 1) rfl
  have c2 : w.cell? ⟨b, 2, none⟩ = some (.int .i64 (S.hi : Int)) := h.cell (j := 2) rfl
  have f0 := h.fz 0
  have e1 : max (x : Int) (S.lo : Int) = ((max x S.lo : Nat) : Int) := by omega
  have e2 : min ((max x S.lo : Nat) : Int) (S.hi : Int) = ((min (max x S.lo) S.hi : Nat) : Int) := by omega
  have H := Lib.hid h
  clear h
  go_enter Tryz.func165, Tryz.ntmps165
  go_region
  go_wp2_with fail
  go_end0
  exact ⟨rfl, (Only.setCell (S := fun k => k = b) (p := ⟨b, 0, none⟩) (Only.refl _ w) rfl _).drew, H.out.set (j := 0) (by simp) (.int .i64 ((min (max x S.lo) S.hi : Nat) : Int))⟩
set_option maxRecDepth 100000 in
set_option maxHeartbeats 2000000 in
theorem Narrow_ok (h : BufT w b g S cs) (x y : Nat) (h1 : 1 ≤ x) (h2 : x ≤ y) (h3 : y ≤ cs.length + 1) : Calls Tryz.prog 79 #[pAt b, .int .i64 x, .int .i64 y] w fun r w' => r = .returned (.int .i64 0) ∧
    Only (fun k => k = b) w w' ∧ BufT w' b g { S with lo := x, hi := y, pt := min (max S.pt x) y } cs := by
  have hv : mayB cs.length x y = true := by unfold mayB; simp; omega
  have HM := Lib.hid (ChkAt.made h.blk)
  have HV := Lib.hid (valid_ok h x y)
  rw [hv] at HV
  have H := Lib.hid h
  clear h hv
  go_enter Tryz.func79, Tryz.ntmps79
  go_wp2_with fail
  refine HV.out.mono ?_
  rintro r w1 ⟨k1, k2, rfl, hb1, hc⟩
  change ChkAt w1 True (unlC k1 k2 0) at hc
  have C1 := Lib.hid hc
  have B1 := Lib.hid hb1
  have M1 := Lib.hid (HM.out.up hb1)
  clear hc hb1 HV HM
  go_wp2_with fail
  have hb4 := below1 w1 (.cells #[(madeC b).val, (unlC k1 k2 0).val] 69)
  have hR3 := RSl.arr (enc := encK) (zs := [madeC b, unlC k1 k2 0]) (MapKept.heap_alloc w1 (.cells #[(madeC b).val, (unlC k1 k2 0).val] 69)).1 rfl
  have HF := first_any hR3 2 (by simp) (by
    intro c hc
    simp only [List.mem_cons, List.not_mem_nil, or_false] at hc
    rcases hc with rfl | rfl
    · exact M1.out.en
    · exact C1.out.en) (by
    intro i c w4 hi hz hb
    rcases i with _ | _ | i
    · cases hi; exact M1.out.run trivial w4 (up2 hb4 hb)
    · cases hi; exact C1.out.run trivial w4 (up2 hb4 hb)
    · simp at hi)
  have HF := Lib.hid HF
  have B2 := Lib.hid (up2 B1.out hb4)
  clear hR3 hb4 M1 C1 B1
  refine HF.out.mono ?_
  rintro e w5 ⟨rfl, hb5⟩
  have hh := H.out.up (up2 B2.out hb5)
  have q1 := hh.blk.cell (j := 1) rfl
  have q2 := hh.blk.cell (j := 2) rfl
  have q0 := hh.blk.cell (j := 0) rfl
  have f1 := hh.blk.fz 1
  have f2 := hh.blk.fz 2
  have H5 := Lib.hid hh
  have B5 := Lib.hid (up2 B2.out hb5)
  clear hh hb5 B2 HF H
  simp only [firstE]
  go_wp2_with fail
  have hk6 := (H5.out.blk.set (j := 1) (by simp) (.int .i64 (x : Int))).set (j := 2) (by simp) (.int .i64 (y : Int))
  have ho6 : Only (fun k => k = b) w5 ((w5.setCell ⟨b, 1, none⟩ (.int .i64 (x : Int))).setCell ⟨b, 2, none⟩ (.int .i64 (y : Int))) :=
    Only.setCell (S := fun k => k = b) (p := ⟨b, 2, none⟩) (Only.setCell (S := fun k => k = b) (p := ⟨b, 1, none⟩) (Only.refl _ w5) rfl _) rfl _
  have hk6' : BufB ((w5.setCell ⟨b, 1, none⟩ (.int .i64 (x : Int))).setCell ⟨b, 2, none⟩ (.int .i64 (y : Int))) b { S with lo := x, hi := y } := hk6
  clear q1 q2 q0 f1 f2 hk6
  have g6 := H5.out.gap.kept (ho6.block S.t (by obtain ⟨_, _, _, _, q⟩ := H5.out.gap; exact q.lt) (Ne.symm H5.out.hbt)) (ho6.block g (by obtain ⟨_, _, _, _, q⟩ := H5.out.gap; exact q.hg) (Ne.symm H5.out.hbg)) ho6.size
  have O6 := Lib.hid ((Only.of_below B5.out).trans ho6)
  have G6 := Lib.hid g6
  clear g6 ho6
  generalize (w5.setCell ⟨b, 1, none⟩ (.int .i64 (x : Int))).setCell ⟨b, 2, none⟩ (.int .i64 (y : Int)) = W at *
  refine (stand_ok hk6' S.pt).mono ?_
  rintro r w7 ⟨rfl, ho7, hk7⟩
  have K7 := Lib.hid hk7
  clear hk7
  go_wp2_with fail
  go_ret
  refine ⟨rfl, O6.out.trans ho7, ⟨K7.out, G6.out.kept (ho7.block S.t (by obtain ⟨_, _, _, _, q⟩ := G6.out; exact q.lt) (Ne.symm H5.out.hbt)) (ho7.block g (by obtain ⟨_, _, _, _, q⟩ := G6.out; exact q.hg) (Ne.symm H5.out.hbg)) ho7.size, H5.out.hbt, H5.out.hbg, h1, ?_, ?_, h3⟩⟩
  · show x ≤ min (max S.pt x) y; omega
  · show min (max S.pt x) y ≤ y; omega
end
end Go.Proofs.YtcfdalmllegefaaGreatDoor
/- Buffer.Text; runes.List; syntax's chars. -/
namespace Go.Proofs.YtcfdalmllegefaaGreatDoor
open Go.RowKit
set_option linter.unusedVariables false
set_option linter.unusedSimpArgs false
section
variable {w w' : World} {b g tb bs ms mo : Nat} {S : BS} {cs : List Nat}
set_option maxRecDepth 100000 in
set_option maxHeartbeats 2000000 in
theorem bText_ok (h : BufT w b g S cs) (x y : Nat) (h1 : S.lo ≤ x) (h2 : x ≤ y) (h3 : y ≤ S.hi) : Calls Tryz.prog 53 #[pAt b, .int .i64 x, .int .i64 y] w fun r w' => r = .returned (.tuple #[.string (encS (subL cs x y)), .int .i64 0]) ∧ Below w.heap.size w w' := by
  have hr : reachB S x y = true := by unfold reachB; simp; omega
  have HM := Lib.hid (ChkAt.made h.blk)
  have HV := Lib.hid (within_ok h.blk x y)
  rw [hr] at HV
  have q1 := h.h1
  have q4 := h.h4
  have H := Lib.hid h
  clear h hr
  go_enter Tryz.func53, Tryz.ntmps53
  go_wp2_with fail
  refine HV.out.mono ?_
  rintro r w1 ⟨k1, k2, rfl, hb1, hc⟩
  change ChkAt w1 True (unlC k1 k2 0) at hc
  have C1 := Lib.hid hc
  have B1 := Lib.hid hb1
  have M1 := Lib.hid (HM.out.up hb1)
  clear hc hb1 HV HM
  go_wp2_with fail
  have hb4 := below1 w1 (.cells #[(madeC b).val, (unlC k1 k2 0).val] 69)
  have hR3 := RSl.arr (enc := encK) (zs := [madeC b, unlC k1 k2 0]) (MapKept.heap_alloc w1 (.cells #[(madeC b).val, (unlC k1 k2 0).val] 69)).1 rfl
  have HF := first_any hR3 2 (by simp) (by
    intro c hc
    simp only [List.mem_cons, List.not_mem_nil, or_false] at hc
    rcases hc with rfl | rfl
    · exact M1.out.en
    · exact C1.out.en) (by
    intro i c w4 hi hz hb
    rcases i with _ | _ | i
    · cases hi; exact M1.out.run trivial w4 (up2 hb4 hb)
    · cases hi; exact C1.out.run trivial w4 (up2 hb4 hb)
    · simp at hi)
  have HF := Lib.hid HF
  have B2 := Lib.hid (up2 B1.out hb4)
  clear hR3 hb4 M1 C1 B1
  refine HF.out.mono ?_
  rintro e w5 ⟨rfl, hb5⟩
  have hh := H.out.up (up2 B2.out hb5)
  have q9 := hh.blk.cell (j := 9) rfl
  have H5 := Lib.hid hh
  have B5 := Lib.hid (up2 B2.out hb5)
  clear hh hb5 B2 HF H
  simp only [firstE]
  go_wp2_with fail
  refine (gslice_ok H5.out.gap x y (by omega) h2 (by omega)).mono ?_
  rintro e w6 ⟨rfl, hb6⟩
  go_wp2_with fail
  go_ret2
  exact ⟨rfl, up2 B5.out hb6⟩
set_option maxRecDepth 100000 in
set_option maxHeartbeats 2000000 in
theorem rlist_ok {N : Nat} (hT : Tabs N w) (s : ByteArray) (hs : s.size ≤ 1000000) (hv : (charsD s.data.toList).isSome = true) : Calls Tryz.prog 221 #[.string s] w fun e w' => ∃ v, e = .returned (.tuple #[v, .int .i64 0]) ∧ ROwn encI 3 1 w.heap.size w' v ((chrs s).map Int.ofNat) ∧ Below w.heap.size w w' := by
  have hlen := chrs_len s
  obtain ⟨cs, hcs⟩ := Option.isSome_iff_exists.1 hv
  have hcc : chrs s = cs := by unfold chrs; rw [hcs]; rfl
  rw [hcc] at hlen ⊢
  have hV := valid_any s w (by omega) hT
  rw [vld_chars, hv] at hV
  have HV := Lib.hid hV
  have HCS := Lib.hid hcs
  clear hV hv hcc hcs hT
  go_enter Tryz.func221, Tryz.ntmps221
  go_wp2_with fail
  refine HV.out.mono ?_
  rintro e w1 ⟨rfl, hb1⟩
  have z1 := hb1.size
  have B1 := Lib.hid hb1
  clear hb1 HV
  go_wp2_with fail
  have hit := w1.iter_heap s 0
  have hsz : (w1.iter s 0).heap.size = w1.heap.size + 1 := by simp [World.iter]
  have HBi := Lib.hid (show Below w1.heap.size w1 (w1.iter s 0) from below1 w1 _)
  generalize w1.iter s 0 = W at *
  go_loopw [4, 6] (fun va vb wr => ∃ (p : Nat) (pre rest : List Nat), p ≤ s.size ∧ cs = pre ++ rest ∧ charsD (s.data.toList.drop p) = some rest ∧ wr.heap[w1.heap.size]? = some (.stringIter s p) ∧
      ROwn encI 3 1 (w1.heap.size + 1) wr va (pre.map Int.ofNat) ∧ Below w.heap.size w wr ∧ w1.heap.size + 1 ≤ wr.heap.size) (fun _ _ wr => s.size - wr.iterPos w1.heap.size)
  case atStart => exact ⟨0, [], cs, Nat.zero_le _, rfl, by simpa using HCS.out, hit, ROwn.nil _ _, up2 B1.out HBi.out, by omega⟩
  case round =>
    obtain ⟨p, pre, rest, hp, hcs, hrest, hit, hown, hbel, hsz2⟩ := hrel
    clear hsz
    generalize w1.heap.size = K at *
    by_cases hlt : p < s.size
    · obtain ⟨c, rest', hrc, hd1, hd2, hd3, hd4, hc⟩ := decode_step hlt hrest
      subst hrc
      have hnx := fun ty => Lib.run_next_any_at (P := Tryz.prog) wr K s p ty hit hlt
      rw [hd1] at hnx
      have hit1 := Lib.iterAt_heap wr K s p (p + (Utf8.decode s p).2) hit
      have hoth := fun j (hj : j ≠ K) => Lib.iterAt_other wr K j s (p + (Utf8.decode s p).2) hj
      have hsz1 := Lib.iterAt_size wr K s (p + (Utf8.decode s p).2)
      have hip : (wr.iterPos K) = p := iterPos_of hit
      rw [hip]
      have hpp : p < p + (Utf8.decode s p).2 := by omega
      have hbel1 : Below w.heap.size w (wr.iterAt K s (p + (Utf8.decode s p).2)) := hbel.trans ⟨rfl, rfl, rfl, by rw [hsz1]; exact Nat.le_refl _, fun j hj => hoth j (by omega)⟩
      clear hd1 hd2
      generalize p + (Utf8.decode s p).2 = p' at *
      generalize wr.iterAt K s p' = w2 at *
      have hown1 := hown.kept (fun g hg => hoth g (by have := hown.base hg; omega))
      have hsz1' : K + 1 ≤ w2.heap.size := by rw [hsz1]; exact hsz2
      clear hsz1
      have s1 : IntKind.i64.wrap (c : Int) = (c : Int) := IntWalk.i64_in _ (by unfold isN at hc; omega)
      have hl : pre.length + 1 ≤ cs.length := by rw [hcs]; simp
      obtain ⟨v', w3, happ, hown2, hb2, hon2, _⟩ := append_elem eltI hown1 hsz1' (c : Int) (by rw [List.length_map]; omega) (by omega)
      have HP : Hid (∀ ty, (Builtin.append_ #[88, 88] ty #[u4, .slice (some ⟨w2.heap.size, 0, none⟩) 1 1]).run Tryz.prog (w2.alloc (.cells #[.int .i64 (c : Int)] 3)) = .ok v' w3) := Lib.hid happ
      have HNX := Lib.hid hnx
      clear happ
      go_wp2_with (at_builtin; refine wpList_app_run (v := u4) (u := .slice (some ⟨w2.heap.size, 0, none⟩) 1 1) rfl _ _ _ rfl rfl rfl HP.out ?_)
      have hit2 := (hb2.block K (by omega)).trans hit1
      go_roundw
      case rel =>
        refine ⟨p', pre ++ [c], rest', hd3, by rw [hcs, List.append_assoc]; rfl, hd4, hit2, by rw [List.map_append]; exact hown2, hbel1.trans (hb2.mono (by omega)), Nat.le_trans hsz1' hb2.size⟩
      case measure =>
        rw [iterPos_of hit2]; omega
    · have hp2 : p = s.size := by omega
      have hrn : rest = [] := by
        have : s.data.toList.drop p = [] := List.drop_eq_nil_of_le (by rw [hp2]; simp)
        rw [this, charsD_nil] at hrest
        cases hrest; rfl
      subst hrn
      rw [List.append_nil] at hcs
      have hnx := fun ty => Lib.run_next_end_at (P := Tryz.prog) wr K s p ty hit hlt
      go_wp2_with fail
      go_ret2
      exact ⟨_, rfl, by rw [hcs]; exact hown.low (by omega), hbel⟩
end
end Go.Proofs.YtcfdalmllegefaaGreatDoor
