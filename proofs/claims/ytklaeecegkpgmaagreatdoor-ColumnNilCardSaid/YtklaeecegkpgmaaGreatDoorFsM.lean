import Derived.Test.YtklaeecegkpgmaaGreatDoorJq
import Derived.Test.YtklaeecegkpgmaaGreatDoorFsJ
/- Package buffer: put into a new buffer. -/
namespace Go.Proofs.YtklaeecegkpgmaaGreatDoor
open Go.RowKit
set_option linter.unusedVariables false
set_option linter.unusedSimpArgs false
/-- A buffer and its text. -/
structure BufT (w : World) (b g : Nat) (S : BS) (cs : List Nat) : Prop where
  blk : BufB w b S
  gap : GapR w S.t g cs
  hbt : b ≠ S.t
  hbg : b ≠ g
  h1 : 1 ≤ S.lo
  h2 : S.lo ≤ S.pt
  h3 : S.pt ≤ S.hi
  h4 : S.hi ≤ cs.length + 1
theorem BufT.r {w : World} {b g : Nat} {S : BS} {cs : List Nat} (h : BufT w b g S cs) : BufR w b cs S.pt S.lo S.hi :=
  ⟨S.t, g, h.blk.cell (j := 0) rfl, h.blk.cell (j := 1) rfl, h.blk.cell (j := 2) rfl, h.blk.cell (j := 9) rfl, h.gap, h.hbt, h.hbg, h.h1, h.h2, h.h3, h.h4⟩
theorem BufT.up {w w' : World} {b g : Nat} {S : BS} {cs : List Nat} (h : BufT w b g S cs) (hb : Below w.heap.size w w') : BufT w' b g S cs := ⟨h.blk.up hb, h.gap.up hb, h.hbt, h.hbg, h.h1, h.h2, h.h3, h.h4⟩
/-- The state behind the first insertion of n characters, point not yet moved. -/
abbrev insS (t m p o l : Nat) (lock : Int) (n pt : Nat) (em : Bool) : BS := ⟨pt, 1, 1 + n, 0, false, false, false, 1, 0, t, m, p, o, l, true, em, lock, .slice none 0 0, 0⟩
section
variable {w w' : World}
set_option maxRecDepth 100000 in
set_option maxHeartbeats 4000000 in
theorem put0_ok {N b t g l mm m p o : Nat} {lock pr ev : Int} (hT : Tabs N w) (hR : Rules N w) (h : Fr w N b t g l mm m p o lock pr ev) (s : ByteArray) (hs : s.size ≤ 10000) (hv : (charsD s.data.toList).isSome = true) (h0 : 0 < (chrs s).length) :
    Calls Tryz.prog 75 #[pAt b, .int .i64 1, .string s, .bool false] w fun r w' => r = .returned (.tuple #[]) ∧ Only (fun k => k = b ∨ k = l ∨ k = t ∨ k = p) w w' ∧ BufB w' b (insS t m p o l lock (chrs s).length 1 false) ∧
      (∃ g', w.heap.size ≤ g' ∧ GapR w' t g' (chrs s)) ∧ ∃ B v, w.heap.size ≤ B ∧ B ≤ w'.heap.size ∧ ROwn chC 156 9 B w' v [(6, 0, 0), (4, 1, 0), (1, 1, ((1 + (chrs s).length : Nat) : Int))] ∧ Blk w' l 175 (lgC (.slice none 0 0) v 3 3) := by
  have hlen := chrs_len s
  have hLn := runesLen s w (by omega) hT
  rw [rlenG_chars hv] at hLn
  obtain ⟨n, hn⟩ : ∃ n, n = (chrs s).length := ⟨_, rfl⟩
  rw [← hn] at hLn h0 hlen ⊢
  have HLn := Lib.hid hLn
  have HN := Lib.hid hn
  have HV := Lib.hid hv
  have HT := Lib.hid hT
  have HR := Lib.hid hR
  have H := Lib.hid h
  have hord := h.ord
  have hbw := h.blk.lt
  have d0 : ((n : Int) == 0) = false := by simp; omega
  have s1 : IntKind.i64.wrap (1 + (n : Int)) = ((1 + n : Nat) : Int) := by rw [IntWalk.i64_in _ (by omega)]; omega
  clear hLn hn hv hT hR h
  go_enter Tryz.func75, Tryz.ntmps75
  go_wp2_with fail
  refine HLn.out.mono ?_
  rintro e w1 ⟨rfl, hb1⟩
  have H1 := Lib.hid (H.out.up hb1)
  have R1 := Lib.hid (HR.out.up hb1)
  have T1 := Lib.hid (HT.out.up hb1)
  have B1 := Lib.hid hb1
  have z1 := hb1.size
  clear hb1 HLn H HR HT
  go_wp2_with fail
  refine (note0_ok R1.out H1.out.blk rfl rfl rfl rfl rfl (by show N ≤ l; omega) (by omega) (by show b ≠ l; omega) H1.out.log (1 + n) (by omega) (by omega)).mono ?_
  rintro e w2 ⟨rfl, ho2, hk2, B, v, hB1, hB2, hv2, hl2⟩
  have t2 := H1.out.txt.only ho2 (by show ¬ (t = b ∨ t = l); omega)
  have m2 : Mk0 w2 m mm := ⟨H1.out.mks.blk.only ho2 (by show ¬ (m = b ∨ m = l); omega), by
    obtain ⟨L, c, q2, e⟩ := H1.out.mks.im
    exact ⟨L, c, ⟨(ho2.block mm (Array.getElem?_eq_some_iff.1 q2.block).1 (by show ¬ (mm = b ∨ mm = l); omega)).trans q2.block, q2.keys, q2.borns, q2.old⟩, e⟩⟩
  have p2 := H1.out.prs.only ho2 (by show ¬ (p = b ∨ p = l); omega)
  have o2 := H1.out.ovs.only ho2 (by show ¬ (o = b ∨ o = l); omega)
  have T2 := Lib.hid (T1.out.only ho2 (fun k hk => by rcases hk with rfl | rfl <;> (try show N ≤ l) <;> omega))
  have z2 := ho2.size
  have K2 := Lib.hid (show BufB w2 b ⟨1, 1, 1, 0, false, false, false, 0, 0, t, m, p, o, l, true, false, lock, .slice none 0 0, 0⟩ from hk2)
  have L2 := Lib.hid hl2
  have V2 := Lib.hid hv2
  have TX := Lib.hid t2
  have MX := Lib.hid m2
  have PX := Lib.hid p2
  have OX := Lib.hid o2
  have O2 := Lib.hid ((Only.of_below B1.out).trans ho2)
  clear ho2 hk2 hv2 hl2 t2 m2 p2 o2 T1 R1 H1 B1
  have q9 := K2.out.cell (j := 9) rfl
  go_wp2_with fail
  refine (ginsert0 T2.out s hs HV.out TX.out (by omega) (by rw [← HN.out]; exact h0)).mono ?_
  rintro e w3 ⟨rfl, ho3, g', hg', hgap⟩
  have K3 := Lib.hid (K2.out.only ho3 (by show ¬ (b = t); omega))
  have L3 := Lib.hid (L2.out.only ho3 (by show ¬ (l = t); omega))
  have V3 := Lib.hid (V2.out.kept (fun k hk => ho3.block k (V2.out.lt hk) (by have := V2.out.base hk; show ¬ (k = t); omega)))
  have M3 := Lib.hid (show Mk0 w3 m mm from ⟨MX.out.blk.only ho3 (by show ¬ (m = t); omega), by
    obtain ⟨L, c, q2, e⟩ := MX.out.im
    exact ⟨L, c, ⟨(ho3.block mm (Array.getElem?_eq_some_iff.1 q2.block).1 (by show ¬ (mm = t); omega)).trans q2.block, q2.keys, q2.borns, q2.old⟩, e⟩⟩)
  have P3 := Lib.hid (PX.out.only ho3 (by show ¬ (p = t); omega))
  have X3 := Lib.hid (OX.out.only ho3 (by show ¬ (o = t); omega))
  have O3 := Lib.hid ((O2.out.mono (T := fun k => k = b ∨ k = l ∨ k = t ∨ k = p) (fun k hk => hk.elim .inl (fun h => .inr (.inl h)))).trans (ho3.mono (fun k hk => .inr (.inr (.inl hk)))))
  have G3 := Lib.hid hgap
  have z3 := ho3.size
  clear ho3 hgap K2 L2 V2 MX PX OX TX O2 T2 q9 HV
  have q10 := K3.out.cell (j := 10) rfl
  go_wp2_with fail
  refine (mins0 1 n false (by omega) (by omega) (by omega) (by omega) M3.out).mono ?_
  rintro e w4 ⟨rfl, hb4⟩
  have K4 := Lib.hid (K3.out.up hb4)
  have L4 := Lib.hid (L3.out.up hb4)
  have V4 := Lib.hid (V3.out.up hb4)
  have P4 := Lib.hid (P3.out.up hb4)
  have X4 := Lib.hid (X3.out.up hb4)
  have G4 := Lib.hid (G3.out.up hb4)
  have O4 := Lib.hid (O3.out.trans (Only.of_below hb4))
  have z4 := hb4.size
  clear hb4 K3 L3 V3 M3 P3 X3 O3 G3 q10
  have q11 := K4.out.cell (j := 11) rfl
  go_wp2_with fail
  refine (pins0 1 n (by omega) (by omega) (by omega) (by omega) P4.out).mono ?_
  rintro e w5 ⟨rfl, ho5, hp5⟩
  have K5 := Lib.hid (K4.out.only ho5 (by show ¬ (b = p); omega))
  have L5 := Lib.hid (L4.out.only ho5 (by show ¬ (l = p); omega))
  have V5 := Lib.hid (V4.out.kept (fun k hk => ho5.block k (V4.out.lt hk) (by have := V4.out.base hk; show ¬ (k = p); omega)))
  have X5 := Lib.hid (X4.out.only ho5 (by show ¬ (o = p); omega))
  have G5 := Lib.hid (G4.out.kept (w' := w5) (ho5.block t (by omega) (by show ¬ (t = p); omega)) (ho5.block g' (by obtain ⟨_, _, _, _, hh⟩ := G4.out; exact hh.hg) (by show ¬ (g' = p); omega)) ho5.size)
  have O5 := Lib.hid (O4.out.trans (ho5.mono (fun k hk => .inr (.inr (.inr hk)))))
  have z5 := ho5.size
  clear ho5 hp5 K4 L4 V4 P4 X4 O4 G4 q11
  have q12 := K5.out.cell (j := 12) rfl
  go_wp2_with fail
  refine (oins0 pr ev 1 n (by omega) (by omega) (by omega) (by omega) X5.out).mono ?_
  rintro e w6 ⟨rfl, hb6⟩
  have K6 := Lib.hid (K5.out.up hb6)
  have L6 := Lib.hid (L5.out.up hb6)
  have V6 := Lib.hid (V5.out.up hb6)
  have G6 := Lib.hid (G5.out.up hb6)
  have O6 := Lib.hid (O5.out.trans (Only.of_below hb6))
  have z6 := hb6.size
  clear hb6 K5 L5 V5 X5 O5 G5 q12
  go_wp2_with fail
  refine (inserted_ok 1 n (by omega) (by omega) w6).mono ?_
  rintro e w7 ⟨cp, rfl, hb7, hE⟩
  have K7 := Lib.hid (K6.out.up hb7)
  have L7 := Lib.hid (L6.out.up hb7)
  have V7 := Lib.hid (V6.out.up hb7)
  have G7 := Lib.hid (G6.out.up hb7)
  have O7 := Lib.hid (O6.out.trans (Only.of_below hb7))
  have z7 := hb7.size
  have E7 := Lib.hid hE
  clear hb7 hE K6 L6 V6 G6 O6
  go_wp2_with fail
  refine (moves0_ok K7.out rfl E7.out false (by show 1 ≤ 2000000; omega) (by show 1 ≤ 2000000; omega) (by show 1 ≤ 2000000; omega) (by show 0 ≤ 2000000; omega) 1 1 (1 + n) 0 (by simp [insF]) (by simp [insF]) (by simp [insF]) (by simp [insF])).mono ?_
  rintro e w8 ⟨rfl, ho8, hk8⟩
  have K8 := Lib.hid (show BufB w8 b ⟨1, 1, 1 + n, 0, false, false, false, 0, 0, t, m, p, o, l, true, false, lock, .slice none 0 0, 0⟩ from hk8)
  have L8 := Lib.hid (L7.out.only ho8 (by show ¬ (l = b); omega))
  have V8 := Lib.hid (V7.out.kept (fun k hk => ho8.block k (V7.out.lt hk) (by have := V7.out.base hk; show ¬ (k = b); omega)))
  have G8 := Lib.hid (G7.out.kept (w' := w8) (ho8.block t (by omega) (by show ¬ (t = b); omega)) (ho8.block g' (by obtain ⟨_, _, _, _, hh⟩ := G7.out; exact hh.hg) (by show ¬ (g' = b); omega)) ho8.size)
  have O8 := Lib.hid (O7.out.trans (ho8.mono (fun k hk => .inl hk)))
  have z8 := ho8.size
  clear ho8 hk8 K7 L7 V7 G7 O7 E7
  have q7 : w8.cell? ⟨b, 7, none⟩ = some (.int .i64 0) := K8.out.cell (j := 7) rfl
  have f7 := K8.out.fz 7
  go_wp2_with fail
  go_end0
  have hk9 := K8.out.set (j := 7) (by simp) (.int .i64 1)
  refine ⟨rfl, O8.out.setCell (p := ⟨b, 7, none⟩) (.inl rfl) _, hk9, ⟨g', by omega, ?_⟩, B, v, by omega, ?_, ?_, ?_⟩
  · rw [HN.out] at *
    exact G8.out.kept (Below.heap_setCell _ _ _ _ (by show t ≠ b; omega)) (Below.heap_setCell _ _ _ _ (by show g' ≠ b; omega)) (by simp)
  · simp; omega
  · exact V8.out.kept (fun k hk => Below.heap_setCell _ _ _ _ (by have := V8.out.base hk; show k ≠ b; omega))
  · exact L8.out.kept (Below.heap_setCell _ _ _ _ (by show l ≠ b; omega))
end
end Go.Proofs.YtklaeecegkpgmaaGreatDoor
