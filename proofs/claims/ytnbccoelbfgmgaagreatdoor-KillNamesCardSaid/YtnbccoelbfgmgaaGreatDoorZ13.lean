import Derived.Test.YtnbccoelbfgmgaaGreatDoorZ12
import Derived.Test.YtnbccoelbfgmgaaGreatDoorZ11
import Derived.Test.YtnbccoelbfgmgaaGreatDoorZ02
import Derived.Test.YtnbccoelbfgmgaaGreatDoorZ03
import Derived.Laws.Cover4
import Derived.Laws.Concat
/- package buffer: put at a plain buffer, any text. -/
namespace Go.Proofs.YtnbccoelbfgmgaaGreatDoor
open Go.RowKit Go.Lib
set_option linter.unusedVariables false
set_option linter.unusedSimpArgs false
def insN (a n x : Nat) (ah : Bool) : Nat := if a < x ∨ x = a ∧ ah = true then x + n else x
theorem insF_nat (a n x : Nat) (ah : Bool) : insF (a : Int) (n : Int) (x : Int) ah = ((insN a n x ah : Nat) : Int) := by
  unfold insF insN
  by_cases h : a < x ∨ x = a ∧ ah = true
  · rw [if_pos (by rcases h with h | h; exact .inl (by omega); exact .inr ⟨by omega, h.2⟩), if_pos h]; omega
  · rw [if_neg (fun q => h (by rcases q with q | q; exact .inl (by omega); exact .inr ⟨by omega, q.2⟩)), if_neg h]
/-- The cells of a buffer behind an insertion of n characters at a. -/
def putS (S : BS) (a n : Nat) (bf : Bool) : BS := { S with pt := insN a n S.pt bf, lo := insN a n S.lo false, hi := insN a n S.hi true, mark := insN a n S.mark bf, tick := S.tick + 1, empty := false }
section
variable {w w' : World} {b mm : Nat} {Fg Fl : Nat → Prop} {pr ev : Int} {S S' : BS} {cs : List Nat} {L : LgS}
set_option maxRecDepth 100000 in
set_option maxHeartbeats 8000000 in
theorem gput {N : Nat} (hT : Tabs N w) (hR : Rules N w) (h : PlainX w b Fg Fl mm pr ev S cs L) (hlg : S.logs = true) (hNb : N ≤ b) (hNg : ∀ k, Fg k → N ≤ k) (hNl : ∀ k, Fl k → N ≤ k)
    (hpt : 1 ≤ S.pt ∧ S.pt ≤ 1000000) (hlo : S.lo ≤ 1000000) (hhi : S.hi ≤ 1000000) (hmk : S.mark ≤ 1000000) (htk : S.tick ≤ 1000000) (hrm : Room L 4)
    (a : Nat) (ha1 : 1 ≤ a) (ha2 : a ≤ cs.length + 1) (s : ByteArray) (hs : s.size ≤ 262144) (hv : (charsD s.data.toList).isSome = true) (h0 : 0 < (chrs s).length) (hfit : cs.length + (chrs s).length ≤ 65536) (bf : Bool) :
    Calls Tryz.prog 105 #[pAt b, .int .i64 a, .string s, .bool bf] w fun r w' => r = .returned (.tuple #[]) ∧ ∃ q : Nat, q ≤ 3 ∧
      PlainTo w b Fg Fl mm pr ev S (putS S a (chrs s).length bf) (insC cs a (chrs s)) ⟨L.G, noteO S L.O (insChg a (chrs s).length), L.ch, L.co + q, L.nw + q⟩ w' := by
  obtain ⟨pt, lo, hi, mark, marked, ro, fo, tick, clean, t, m, p, o, l, logs, empty, lock, saved, tokens⟩ := S
  obtain ⟨G, O, ch, co, nw⟩ := L
  simp only at hlg hpt hlo hhi hmk htk
  subst hlg
  have hLn := fun (w1 : World) (hb : Below w.heap.size w w1) => runesLen s w1 (by omega) (hT.up hb)
  rw [rlenG_chars hv] at hLn
  obtain ⟨n, hn⟩ : ∃ n, n = (chrs s).length := ⟨_, rfl⟩
  rw [← hn] at hLn h0 hfit ⊢
  have hsv := h.sv
  simp only at hsv
  subst hsv
  have d0 : ((n : Int) == 0) = false := by simp; omega
  have n0 : (n = 0) = False := eq_false (by omega)
  have s1 : IntKind.i64.wrap ((a : Int) + (n : Int)) = ((a + n : Nat) : Int) := by rw [IntWalk.i64_in _ (by omega)]; omega
  have s2 : IntKind.i64.wrap ((tick : Int) + 1) = ((tick + 1 : Nat) : Int) := by rw [IntWalk.i64_in _ (by omega)]; omega
  have HLn := Lib.hid hLn
  have HN := Lib.hid (⟨hn, h0, hfit, ha1, ha2, hs, hv⟩ : _ ∧ _ ∧ _ ∧ _ ∧ _ ∧ _ ∧ _)
  have HT := Lib.hid hT
  have HR := Lib.hid hR
  have H := Lib.hid h
  have HB := Lib.hid (⟨hNb, hNg, hNl, hpt, hlo, hhi, hmk, htk, hrm⟩ : _ ∧ _ ∧ _ ∧ _ ∧ _ ∧ _ ∧ _ ∧ _ ∧ _)
  clear hLn hT hR h hNb hNg hNl hpt hlo hhi hmk htk hrm hn h0 hfit ha1 ha2 hs hv
  go_enter Tryz.func105, Tryz.ntmps105
  go_wp2_with fail
  refine (HLn.out w (Below.refl _ _)).mono ?_
  rintro e w1 ⟨rfl, hb1⟩
  have H1 := Lib.hid (H.out.up hb1)
  have R1 := Lib.hid (HR.out.up hb1)
  have T1 := Lib.hid (HT.out.up hb1)
  have z1 := hb1.size
  have B1 := Lib.hid hb1
  clear hb1 HLn H HR HT
  go_wp2_with fail
  refine (gnote (F := Fl) (c := insChg a n) T1.out R1.out H1.out.blk rfl (by have := HB.out; dsimp only; omega) HB.out.2.2.1 HB.out.1 H1.out.fl.1 H1.out.log (insChg_ok HN.out.2.2.2.1 (by have := HN.out; omega)) (by have := HB.out.2.2.2.2.2.2.2.2.o; dsimp only at this ⊢; omega) HB.out.2.2.2.2.2.2.2.2.n0 (by have := HB.out.2.2.2.2.2.2.2.2.n1; rw [price_ins]; dsimp only at this ⊢; omega) HB.out.2.2.2.2.2.2.2.2.c0 (by have := HB.out.2.2.2.2.2.2.2.2.c1; dsimp only at this ⊢; omega)).mono ?_
  rintro e w2 ⟨rfl, ho2, hk2, q, hq, hl2⟩
  have hq3 : q ≤ 3 := by rw [price_ins] at hq; exact hq
  have h1 := H1.out
  have K2 := Lib.hid (show BufB w2 b ⟨pt, lo, hi, mark, marked, ro, fo, tick, clean, t, m, p, o, l, true, false, lock, .slice none 0 0, tokens⟩ from hk2)
  have G2 := Lib.hid (show GapF1 w2 t Fg cs from h1.gap.only ho2 (fun k hk _ e => e.elim (fun e => h1.fg.1 (e ▸ hk)) (h1.fgl k hk)))
  have M2 := Lib.hid (show Mk0 w2 m mm from h1.mks.only ho2 (fun e => e.elim (fun e => h1.ne.1 e.symm) h1.fl.2.1) (fun e => e.elim (fun e => h1.ne.2.1 e.symm) h1.fl.2.2.1))
  have P2 := Lib.hid (show Blk w2 p 183 prC from h1.prs.only ho2 (fun e => e.elim (fun e => h1.ne.2.2.1 e.symm) h1.fl.2.2.2.1))
  have X2 := Lib.hid (show Blk w2 o 186 (ovC pr ev) from h1.ovs.only ho2 (fun e => e.elim (fun e => h1.ne.2.2.2.1 e.symm) h1.fl.2.2.2.2))
  have T2 := Lib.hid (T1.out.only ho2 (fun k hk => hk.elim (fun e => e ▸ HB.out.1) (HB.out.2.2.1 k)))
  have L2 := Lib.hid (show LogF1 w2 l (fun k => grow Fl w1.heap.size k ∧ k < w2.heap.size) G (noteO ⟨pt, lo, hi, mark, marked, ro, fo, tick, clean, t, m, p, o, l, true, empty, lock, .slice none 0 0, tokens⟩ O (insChg a n)) ch (co + q) (nw + q) from LogF1.bound hl2)
  have z2 := ho2.size
  have Z2 := Lib.hid (⟨h1.fgl, h1.fg, h1.fl, h1.ne, h1.bg, h1.bl, h1.blk.lt, h1.mks.lt, h1.prs.lt, h1.ovs.lt, hq3⟩ : _ ∧ _ ∧ _ ∧ _ ∧ _ ∧ _ ∧ _ ∧ _ ∧ _ ∧ _ ∧ _)
  have O2 := Lib.hid (show Only (edFoot b Fg Fl ⟨pt, lo, hi, mark, marked, ro, fo, tick, clean, t, m, p, o, l, true, empty, lock, .slice none 0 0, tokens⟩) w w2 from (Only.of_below B1.out).trans (ho2.mono (fun k hk => hk.elim .inl (fun e => .inr (.inr (.inl e))))))
  clear ho2 hk2 hl2 h1 hq hq3 R1 T1 H1 B1
  have q9 : w2.cell? ⟨b, 9, none⟩ = some (pAt t) := K2.out.cell (j := 9) rfl
  go_wp2_with fail
  refine (ginsertF T2.out G2.out HB.out.2.1 s HN.out.2.2.2.2.2.1 HN.out.2.2.2.2.2.2 a HN.out.2.2.2.1 HN.out.2.2.2.2.1 (by have := HN.out; omega)).mono ?_
  rintro e w3 ⟨rfl, hg3, ho3⟩
  have z3 := ho3.size
  have z := Z2.out
  have K3 := Lib.hid (K2.out.only ho3 z.2.1.1)
  have M3 := Lib.hid (M2.out.only ho3 z.2.1.2.1 z.2.1.2.2.1)
  have P3 := Lib.hid (P2.out.only ho3 z.2.1.2.2.2.1)
  have X3 := Lib.hid (X2.out.only ho3 z.2.1.2.2.2.2)
  have L3 := Lib.hid (L2.out.only ho3 (fun k hk _ e => hk.1.elim (z.1 k e) (fun e2 => by have := z.2.2.2.2.1 k e; omega)))
  have G3 := Lib.hid (show GapF1 w3 t (fun k => grow Fg w2.heap.size k ∧ k < w3.heap.size) (insC cs a (chrs s)) from hg3.bound)
  have O3 := Lib.hid (O2.out.trans (ho3.mono (fun k hk => .inr (.inl hk))))
  clear hg3 ho3 z K2 M2 P2 X2 G2 L2 O2 T2 q9
  have q10 : w3.cell? ⟨b, 10, none⟩ = some (pAt m) := K3.out.cell (j := 10) rfl
  go_wp2_with fail
  refine (mins0 a n bf (by have := HN.out; omega) (by have := HN.out; omega) (by omega) (by have := HN.out; omega) M3.out).mono ?_
  rintro e w4 ⟨rfl, hb4⟩
  have K4 := Lib.hid (K3.out.up hb4)
  have M4 := Lib.hid (M3.out.up hb4)
  have P4 := Lib.hid (P3.out.up hb4)
  have X4 := Lib.hid (X3.out.up hb4)
  have L4 := Lib.hid (L3.out.up hb4)
  have G4 := Lib.hid (G3.out.up hb4)
  have O4 := Lib.hid (O3.out.trans (Only.of_below hb4))
  have z4 := hb4.size
  clear hb4 K3 M3 P3 X3 L3 G3 O3 q10
  have q11 : w4.cell? ⟨b, 11, none⟩ = some (pAt p) := K4.out.cell (j := 11) rfl
  go_wp2_with fail
  refine (pins0 a n (by have := HN.out; omega) (by have := HN.out; omega) (by omega) (by have := HN.out; omega) P4.out).mono ?_
  rintro e w5 ⟨rfl, ho5, hp5⟩
  have z := Z2.out
  have z5 := ho5.size
  have K5 := Lib.hid (K4.out.only ho5 z.2.2.2.1.2.2.1)
  have M5 := Lib.hid (M4.out.only ho5 (fun e => z.2.2.2.1.2.2.2.2.1 e.symm) (fun e => z.2.2.2.1.2.2.2.2.2.1 e.symm))
  have X5 := Lib.hid (X4.out.only ho5 (fun e => z.2.2.2.1.2.2.2.2.2.2.1 e.symm))
  have L5 := Lib.hid (L4.out.only ho5 (fun k hk _ e => hk.1.elim (fun e2 => z.2.2.1.2.2.2.1 (e ▸ e2)) (fun e2 => by have := z.2.2.2.2.2.2.2.2.1; omega)))
  have G5 := Lib.hid (G4.out.only ho5 (fun k hk _ e => hk.1.elim (fun e2 => z.2.1.2.2.2.1 (e ▸ e2)) (fun e2 => by have := z.2.2.2.2.2.2.2.2.1; omega)))
  have O5 := Lib.hid (O4.out.trans (ho5.mono (fun k hk => .inr (.inr (.inr (.inl hk))))))
  have P5 := Lib.hid hp5
  clear ho5 hp5 z K4 M4 P4 X4 L4 G4 O4 q11
  have q12 : w5.cell? ⟨b, 12, none⟩ = some (pAt o) := K5.out.cell (j := 12) rfl
  go_wp2_with fail
  refine (oins0 pr ev a n (by have := HN.out; omega) (by have := HN.out; omega) (by omega) (by have := HN.out; omega) X5.out).mono ?_
  rintro e w6 ⟨rfl, hb6⟩
  have K6 := Lib.hid (K5.out.up hb6)
  have O6 := Lib.hid (O5.out.trans (Only.of_below hb6))
  have B6 := Lib.hid hb6
  have z6 := hb6.size
  clear hb6 K5 O5 q12
  go_wp2_with fail
  refine (inserted_ok a n (by omega) (by have := HN.out; omega) w6).mono ?_
  rintro e w7 ⟨cp, rfl, hb7, hE⟩
  have K7 := Lib.hid (K6.out.up hb7)
  have O7 := Lib.hid (O6.out.trans (Only.of_below hb7))
  have B7 := Lib.hid (up2 B6.out hb7)
  have z7 := hb7.size
  have E7 := Lib.hid hE
  clear hb7 hE K6 O6 B6
  go_wp2_with fail
  refine (moves0_ok K7.out rfl E7.out bf (by have := HB.out; dsimp only; omega) (by have := HB.out; dsimp only; omega) (by have := HB.out; dsimp only; omega) (by have := HB.out; dsimp only; omega) (insN a n pt bf) (insN a n lo false) (insN a n hi true) (insN a n mark bf) (insF_nat _ _ _ _) (insF_nat _ _ _ _) (insF_nat _ _ _ _) (insF_nat _ _ _ _)).mono ?_
  rintro e w8 ⟨rfl, ho8, hk8⟩
  have K8 := Lib.hid (show BufB w8 b ⟨insN a n pt bf, insN a n lo false, insN a n hi true, insN a n mark bf, marked, ro, fo, tick, clean, t, m, p, o, l, true, false, lock, .slice none 0 0, tokens⟩ from hk8)
  have z := Z2.out
  have z8 := ho8.size
  have M8 := Lib.hid ((M5.out.up B7.out).only ho8 (fun e => z.2.2.2.1.1 e.symm) (fun e => z.2.2.2.1.2.1 e.symm))
  have P8 := Lib.hid ((P5.out.up B7.out).only ho8 (fun e => z.2.2.2.1.2.2.1 e.symm))
  have X8 := Lib.hid ((X5.out.up B7.out).only ho8 (fun e => z.2.2.2.1.2.2.2.1 e.symm))
  have L8 := Lib.hid ((L5.out.up B7.out).only ho8 (fun k hk _ e => hk.1.elim (fun e2 => z.2.2.1.1 (e ▸ e2)) (fun e2 => by have := z.2.2.2.2.2.2.1; omega)))
  have G8 := Lib.hid ((G5.out.up B7.out).only ho8 (fun k hk _ e => hk.1.elim (fun e2 => z.2.1.1 (e ▸ e2)) (fun e2 => by have := z.2.2.2.2.2.2.1; omega)))
  have O8 := Lib.hid (O7.out.trans (ho8.mono (fun k hk => .inl hk)))
  clear ho8 hk8 z K7 M5 P5 X5 L5 G5 O7 B7 E7
  have q7 : w8.cell? ⟨b, 7, none⟩ = some (.int .i64 (tick : Int)) := K8.out.cell (j := 7) rfl
  have f7 := K8.out.fz 7
  go_wp2_with fail
  go_end0
  have hk9 := K8.out.set (j := 7) (by simp) (.int .i64 ((tick + 1 : Nat) : Int))
  have ho9 : Only (fun k => k = b) w8 (w8.setCell ⟨b, 7, none⟩ (.int .i64 ((tick + 1 : Nat) : Int))) := (Only.refl (fun k => k = b) w8).setCell (p := ⟨b, 7, none⟩) rfl _
  obtain ⟨y1, y2, y3, y4, y5, y6, y7, y8, y9, y10, y11⟩ := Z2.out
  unfold putS
  dsimp only at y2 y3 y4 y8 y9 y10 ⊢
  refine ⟨rfl, q, y11, O8.out.setCell (p := ⟨b, 7, none⟩) (.inl rfl) _, (fun k => grow Fg w2.heap.size k ∧ k < w3.heap.size), (fun k => grow Fl w1.heap.size k ∧ k < w2.heap.size), ⟨hk9, ?_, ?_, ?_, ?_, ?_, rfl, ?_, ?_, ?_, y4, ?_, ?_⟩, ?_, ?_⟩
  · exact G8.out.only ho9 (fun k hk _ e => hk.1.elim (fun e2 => y2.1 (e ▸ e2)) (fun e2 => by omega))
  · exact L8.out.only ho9 (fun k hk _ e => hk.1.elim (fun e2 => y3.1 (e ▸ e2)) (fun e2 => by omega))
  · exact M8.out.only ho9 (fun e => y4.1 e.symm) (fun e => y4.2.1 e.symm)
  · exact P8.out.only ho9 (fun e => y4.2.2.1 e.symm)
  · exact X8.out.only ho9 (fun e => y4.2.2.2.1 e.symm)
  · intro k hk hk2
    rcases hk.1 with e | e
    · rcases hk2.1 with e2 | e2
      · exact y1 k e e2
      · have := y5 k e; omega
    · have := hk2.2; omega
  · dsimp only
    exact ⟨fun e => e.1.elim y2.1 (fun e => by omega), fun e => e.1.elim y2.2.1 (fun e => by omega), fun e => e.1.elim y2.2.2.1 (fun e => by omega), fun e => e.1.elim y2.2.2.2.1 (fun e => by omega), fun e => e.1.elim y2.2.2.2.2 (fun e => by omega)⟩
  · dsimp only
    exact ⟨fun e => e.1.elim y3.1 (fun e => by omega), fun e => e.1.elim y3.2.1 (fun e => by omega), fun e => e.1.elim y3.2.2.1 (fun e => by omega), fun e => e.1.elim y3.2.2.2.1 (fun e => by omega), fun e => e.1.elim y3.2.2.2.2 (fun e => by omega)⟩
  · intro k hk; have := hk.2; simp; omega
  · intro k hk; have := hk.2; simp; omega
  · intro k hk; exact hk.1.elim .inl (fun e => .inr (by omega))
  · intro k hk; exact hk.1.elim .inl (fun e => .inr (by omega))
end
end Go.Proofs.YtnbccoelbfgmgaaGreatDoor
/- Package buffer: Insert into a new buffer; Boundary. -/
namespace Go.Proofs.YtnbccoelbfgmgaaGreatDoor
open Go.RowKit
set_option linter.unusedVariables false
set_option linter.unusedSimpArgs false
section
variable {w w' : World}
set_option maxHeartbeats 1000000 in
theorem putE {N b : Nat} (hT : Tabs N w) (s : ByteArray) (hs : s.size ≤ 10000) (hv : (charsD s.data.toList).isSome = true) (h0 : (chrs s).length = 0) (at_ : Int) (bf : Bool) :
    Calls Tryz.prog 105 #[pAt b, .int .i64 at_, .string s, .bool bf] w fun r w' => r = .returned (.tuple #[]) ∧ Below w.heap.size w w' := by
  have hLn := runesLen s w (by omega) hT
  rw [rlenG_chars hv, h0] at hLn
  have HLn := Lib.hid hLn
  clear hLn hT h0 hv hs
  go_enter Tryz.func105, Tryz.ntmps105
  go_wp2_with fail
  refine HLn.out.mono ?_
  rintro e w1 ⟨rfl, hb1⟩
  go_wp2_with fail
  refine bodyPost_ret (results_none rfl _ _ _) rfl ?_
  exact ⟨rfl, hb1⟩
theorem gapE {t g : Nat} (h : Blk w t 164 (txtC g 0 0 0 0 (.slice none 0 0))) (hgt : g < t) : GapR w t g [] :=
  ⟨[], 0, 0, 0, h.cell (j := 0) rfl, h.cell (j := 1) rfl, h.cell (j := 2) rfl, Nat.le_refl _, by simp, by have := h.lt; omega, fun i z hz => by simp at hz, Nat.le_refl _, Nat.le_refl _, rfl, fun c hc => by cases hc⟩
/-- The buffer's cells behind the first insertion. -/
def aftS (t m p o l : Nat) (lock : Int) (n : Nat) (em : Bool) : BS := if n = 0 then { freshS t m p o l lock with empty := em } else insS t m p o l lock n (1 + n) em
/-- What put does to a new buffer, both ways. -/
theorem put_any {N b t g l mm m p o : Nat} {lock pr ev : Int} (hT : Tabs N w) (hR : Rules N w) (h : Fr w N b t g l mm m p o lock pr ev) (s : ByteArray) (hs : s.size ≤ 10000) (hv : (charsD s.data.toList).isSome = true) :
    Calls Tryz.prog 105 #[pAt b, .int .i64 1, .string s, .bool false] w fun r w' => r = .returned (.tuple #[]) ∧ Only (fun k => k = b ∨ k = l ∨ k = t ∨ k = p) w w' ∧
      BufB w' b { aftS t m p o l lock (chrs s).length (decide ((chrs s).length = 0)) with pt := 1 } ∧ (∃ g', g ≤ g' ∧ g' ≠ b ∧ g' ≠ l ∧ GapR w' t g' (chrs s)) ∧ LogF w' l := by
  by_cases h0 : (chrs s).length = 0
  · refine (putE hT s hs hv h0 1 false).mono ?_
    rintro r w' ⟨rfl, hb⟩
    have h' := h.up hb
    have e : chrs s = [] := List.eq_nil_of_length_eq_zero h0
    have hord := h.ord
    rw [e]
    exact ⟨rfl, Only.of_below hb, h'.blk, ⟨g, Nat.le_refl _, by omega, by omega, gapE h'.txt (by omega)⟩, .inl h'.log⟩
  · refine (put0_ok hT hR h s hs hv (by omega)).mono ?_
    rintro r w' ⟨rfl, ho, hk, ⟨g', hg', hgap⟩, B, v, _, _, hv, hl⟩
    have hord := h.ord
    have hbw := h.blk.lt
    refine ⟨rfl, ho, ?_, ⟨g', by omega, by omega, by omega, hgap⟩, ?_⟩
    · unfold aftS
      rw [if_neg h0, decide_eq_false h0]
      exact hk
    · obtain ⟨A, cap, rfl, _, _, _⟩ := hv.shape eltC
      exact .inr ⟨A, cap, hl⟩
theorem freshGet {N b t g l mm m p o : Nat} {lock pr ev : Int} (h : Fr w N b t g l mm m p o lock pr ev) : GetAt w p (fun _ _ => none) := getAt0 h.prs
theorem al_fs (w : World) (x y z : Value) (T : TypeId) : ((w.alloc (.cells #[x, y, z] T)).heap[w.heap.size]?) = some (.cells #[x, y, z] T) := (MapKept.heap_alloc w _).1
set_option maxRecDepth 100000 in
set_option maxHeartbeats 4000000 in
theorem insert_ok {N b t g l mm m p o : Nat} {lock pr ev : Int} (hT : Tabs N w) (hR : Rules N w) (h : Fr w N b t g l mm m p o lock pr ev) (s : ByteArray) (hs : s.size ≤ 10000) (hv : (charsD s.data.toList).isSome = true) :
    Calls Tryz.prog 56 #[pAt b, .string s, .bool false] w fun r w' => r = .returned (.int .i64 0) ∧ Only (fun k => k = b ∨ k = l ∨ k = t ∨ k = p) w w' ∧
      BufB w' b (aftS t m p o l lock (chrs s).length (decide ((chrs s).length = 0))) ∧ (∃ g', g ≤ g' ∧ g' ≠ b ∧ g' ≠ l ∧ GapR w' t g' (chrs s)) ∧ LogF w' l := by
  have hlen := chrs_len s
  have HV := Lib.hid hv
  have HT := Lib.hid hT
  have HR := Lib.hid hR
  have H := Lib.hid h
  have HN := Lib.hid (bnoneB h.blk)
  have c0 : w.cell? ⟨b, 0, none⟩ = some (.int .i64 1) := h.blk.cell (j := 0) rfl
  have hord := h.ord
  have hvl : vld s = true := by rw [vld_chars]; exact hv
  have hrl := rlenG_chars hv
  have HVL := Lib.hid (And.intro hvl hrl)
  clear hT hR h hv hvl hrl
  go_enter Tryz.func56, Tryz.ntmps56
  go_wp2_with fail
  refine HN.out.mono ?_
  rintro e w0 ⟨rfl, rfl⟩
  go_wp2_with fail
  refine (within_ok H.out.blk 1 1).mono ?_
  rintro e w1 ⟨k1, k2, rfl, hb1, hc1⟩
  change ChkAt w1 True (unlC k1 k2 0) at hc1
  have C1 := Lib.hid hc1
  have B1 := Lib.hid hb1
  clear hc1 hb1 HN
  go_wp2_with fail
  refine (gapOpen_ok (H.out.blk.up B1.out) (freshGet (H.out.up B1.out)) 1).mono ?_
  rintro e w2 ⟨k3, k4, rfl, hb2, hc2⟩
  change ChkAt w2 _ (unlC k3 k4 0) at hc2
  have C2 := Lib.hid hc2
  have B2 := Lib.hid (up2 B1.out hb2)
  have C12 := Lib.hid (C1.out.up hb2)
  clear hc2 hb2 C1 B1
  go_wp2_with fail
  refine (fits_ok (n := 0) (HT.out.up B2.out) (H.out.blk.up B2.out) s (by omega) 0 (by omega) (fun w3 hb3 => gsize0 _ ((H.out.up B2.out).up hb3).txt)).mono ?_
  rintro e w3 ⟨k5, k6, k7, rfl, hb3, hc3⟩
  have hfs : fitsE s 0 0 = 0 := by
    unfold fitsE
    rw [if_pos HVL.out.1, HVL.out.2, if_neg (by omega)]
  rw [hfs] at hc3 ⊢
  clear hfs
  have C3 := Lib.hid hc3
  have B3 := Lib.hid (up2 B2.out hb3)
  have C13 := Lib.hid (C12.out.up hb3)
  have C23 := Lib.hid (C2.out.up hb3)
  clear hc3 hb3 C2 B2 C12
  go_wp2_with fail
  have hb4 := below1 w3 (.cells #[(unlC k1 k2 0).val, (unlC k3 k4 0).val, (fitC k5 k6 k7 0).val] 67)
  have hR3 := RSl.arr (enc := encK) (zs := [unlC k1 k2 0, unlC k3 k4 0, fitC k5 k6 k7 0]) (MapKept.heap_alloc w3 (.cells #[(unlC k1 k2 0).val, (unlC k3 k4 0).val, (fitC k5 k6 k7 0).val] 67)).1 rfl
  have HF := first_any hR3 3 (by simp) (by
    intro c hc
    simp only [List.mem_cons, List.not_mem_nil, or_false] at hc
    rcases hc with rfl | rfl | rfl
    · exact C13.out.en
    · exact C23.out.en
    · exact C3.out.en) (by
    intro i c w4 hi hz hb
    rcases i with _ | _ | _ | i
    · cases hi; exact C13.out.run trivial w4 (up2 hb4 hb)
    · cases hi; exact C23.out.run ⟨by omega, by omega⟩ w4 (up2 hb4 hb)
    · cases hi; exact C3.out.run ⟨by omega, by omega⟩ w4 (up2 hb4 hb)
    · simp at hi)
  have B4 := Lib.hid (up2 B3.out hb4)
  have HF := Lib.hid HF
  clear hR3 hb4 C13 C23 C3 B3
  refine HF.out.mono ?_
  rintro e w5 ⟨rfl, hb5⟩
  have B5 := Lib.hid (up2 B4.out hb5)
  clear hb5 B4 HF
  simp only [firstE]
  go_wp2_with fail
  refine (put_any (HT.out.up B5.out) (HR.out.up B5.out) (H.out.up B5.out) s hs HV.out).mono ?_
  rintro e w6 ⟨rfl, ho6, hk6, hg6, hl6⟩
  have K6 := Lib.hid hk6
  have T6 := Lib.hid (((HT.out.up B5.out).only ho6 (fun k hk => by omega)))
  have G6 := Lib.hid hg6
  have L6 := Lib.hid hl6
  have O6 := Lib.hid ((Only.of_below B5.out).trans ho6)
  have z6 := ho6.size
  clear ho6 hk6 hg6 hl6 HT HR H
  have hLn := runesLen s w6 (by omega) T6.out
  rw [HVL.out.2] at hLn
  go_wp2_with fail
  refine hLn.mono ?_
  rintro e w7 ⟨rfl, hb7⟩
  have hk7 := K6.out.up hb7
  have q0 := hk7.cell (j := 0) rfl
  have f0 := hk7.fz 0
  have K7 := Lib.hid hk7
  have G7 := Lib.hid (show ∃ g', g ≤ g' ∧ g' ≠ b ∧ g' ≠ l ∧ GapR w7 t g' (chrs s) from by obtain ⟨g', h1, h2, h2', h3⟩ := G6.out; exact ⟨g', h1, h2, h2', h3.up hb7⟩)
  have L7 := Lib.hid (L6.out.up hb7)
  have O7 := Lib.hid (O6.out.trans (Only.of_below hb7))
  have s1 : IntKind.i64.wrap (1 + ((chrs s).length : Int)) = ((1 + (chrs s).length : Nat) : Int) := by rw [IntWalk.i64_in _ (by omega)]; omega
  have hbl : b ≠ l := by omega
  clear hk7 hb7 hLn K6 G6 L6 O6 T6
  go_wp2_with fail
  go_ret
  have hk8 := K7.out.set (j := 0) (by simp) (.int .i64 ((1 + (chrs s).length : Nat) : Int))
  refine ⟨rfl, O7.out.setCell (p := ⟨b, 0, none⟩) (.inl rfl) _, ?_, ?_, ?_⟩
  · have e : { ({ aftS t m p o l lock (chrs s).length (decide ((chrs s).length = 0)) with pt := 1 } : BS) with pt := 1 + (chrs s).length } = aftS t m p o l lock (chrs s).length (decide ((chrs s).length = 0)) := by
      unfold aftS
      split
      · rename_i h0; rw [h0]
      · rfl
    rw [← e]; exact hk8
  · obtain ⟨g', h1, h2, h2', h3⟩ := G7.out
    exact ⟨g', h1, h2, h2', h3.kept (Below.heap_setCell _ _ _ _ (by show t ≠ b; omega)) (Below.heap_setCell _ _ _ _ (by show g' ≠ b; omega)) (by simp)⟩
  · have hkk : (w7.setCell ⟨b, 0, none⟩ (.int .i64 ((1 + (chrs s).length : Nat) : Int))).heap[l]? = w7.heap[l]? := Below.heap_setCell _ _ _ _ (by show l ≠ b; omega)
    rcases L7.out with hl | ⟨A, cap, hl⟩
    · exact .inl (hl.kept hkk)
    · exact .inr ⟨A, cap, hl.kept hkk⟩
end
end Go.Proofs.YtnbccoelbfgmgaaGreatDoor
/- package buffer: insert (Insert, InsertAhead) and Put at a plain buffer. -/
namespace Go.Proofs.YtnbccoelbfgmgaaGreatDoor
open Go.RowKit Go.Lib
set_option linter.unusedVariables false
set_option linter.unusedSimpArgs false
/-- The positions of a buffer lie in its text of n characters. -/
structure Sane (S : BS) (n : Nat) : Prop where
  l1 : 1 ≤ S.lo
  lp : S.lo ≤ S.pt
  ph : S.pt ≤ S.hi
  hn : S.hi ≤ n + 1
  ma : S.mark ≤ n + 1
/-- The log behind a put of n characters at a. -/
def PutL (S : BS) (L : LgS) (a n : Nat) (L' : LgS) : Prop := if n = 0 then L' = L else ∃ q : Nat, q ≤ 3 ∧ L' = ⟨L.G, noteO S L.O (insChg a n), L.ch, L.co + q, L.nw + q⟩
/-- The state behind a put of n characters, n = 0 too. -/
def putS0 (S : BS) (a n : Nat) (bf : Bool) : BS := if n = 0 then S else putS S a n bf
section
variable {w w' : World} {b mm : Nat} {Fg Fl : Nat → Prop} {pr ev : Int} {S S' : BS} {cs : List Nat} {L L' : LgS}
theorem PlainX.r (h : PlainX w b Fg Fl mm pr ev S cs L) (hs : Sane S cs.length) : BufR w b cs S.pt S.lo S.hi := by
  obtain ⟨g, fv, B, st, en, hx, hf⟩ := h.gap
  exact ⟨S.t, g, h.blk.cell (j := 0) rfl, h.blk.cell (j := 1) rfl, h.blk.cell (j := 2) rfl, h.blk.cell (j := 9) rfl, hx.r, fun e => h.fg.1 (e ▸ hf _ (.inl rfl)), fun e => h.fg.1 (e ▸ hf _ (.inr (.inl rfl))), hs.l1, hs.lp, hs.ph, hs.hn⟩
theorem PlainTo.refl (h : PlainX w b Fg Fl mm pr ev S cs L) : PlainTo w b Fg Fl mm pr ev S S cs L w := ⟨Only.refl _ _, Fg, Fl, h, fun k hk => .inl hk, fun k hk => .inl hk⟩
theorem PlainTo.of_up (h : PlainX w b Fg Fl mm pr ev S cs L) (hb : Below w.heap.size w w') : PlainTo w b Fg Fl mm pr ev S S cs L w' := ⟨Only.of_below hb, Fg, Fl, h.up hb, fun k hk => .inl hk, fun k hk => .inl hk⟩
/-- Behind reads. -/
theorem PlainTo.pre {w0 : World} (hb : Below w0.heap.size w0 w) (h : PlainTo w b Fg Fl mm pr ev S S' cs L w') : PlainTo w0 b Fg Fl mm pr ev S S' cs L w' := by
  obtain ⟨ho, Fg', Fl', hx, h1, h2⟩ := h
  exact ⟨(Only.of_below hb).trans ho, Fg', Fl', hx, fun k hk => grow_mono (fun k h => h) hb.size k (h1 k hk), fun k hk => grow_mono (fun k h => h) hb.size k (h2 k hk)⟩
theorem PlainTo.post {w1 : World} (h : PlainTo w b Fg Fl mm pr ev S S' cs L w1) (hb : Below w1.heap.size w1 w') : PlainTo w b Fg Fl mm pr ev S S' cs L w' := by
  obtain ⟨ho, Fg', Fl', hx, h1, h2⟩ := h
  exact ⟨ho.trans (Only.of_below hb), Fg', Fl', hx.up hb, h1, h2⟩
/-- A cell of the buffer is turned. -/
theorem PlainTo.cell {w1 : World} (h : PlainTo w b Fg Fl mm pr ev S S' cs L w1) {j : Nat} {v : Value} {S2 : BS} (hj : j < 19) (he : (bufC S').set j v (by simpa using hj) = bufC S2) (h2 : S2.t = S'.t ∧ S2.m = S'.m ∧ S2.p = S'.p ∧ S2.o = S'.o ∧ S2.l = S'.l ∧ S2.saved = S'.saved) :
    PlainTo w b Fg Fl mm pr ev S S2 cs L (w1.setCell ⟨b, j, none⟩ v) := by
  obtain ⟨ho, Fg', Fl', hx, h1, h3⟩ := h
  obtain ⟨e1, e2, e3, e4, e5, e6⟩ := h2
  have hob : Only (fun k => k = b) w1 (w1.setCell ⟨b, j, none⟩ v) := (Only.refl (fun k => k = b) w1).setCell (p := ⟨b, j, none⟩) rfl _
  have hblk := Blk.set hx.blk (j := j) (by simpa using hj) v
  rw [he] at hblk
  refine ⟨ho.setCell (p := ⟨b, j, none⟩) (.inl rfl) _, Fg', Fl', ⟨hblk, ?_, ?_, ?_, ?_, ?_, by rw [e6]; exact hx.sv, hx.fgl, by rw [e2, e3, e4]; exact hx.fg, by rw [e2, e3, e4]; exact hx.fl, by rw [e2, e3, e4]; exact hx.ne, ?_, ?_⟩, h1, h3⟩
  · rw [e1]; exact hx.gap.only hob (fun k hk _ e => hx.fg.1 (e ▸ hk))
  · rw [e5]; exact hx.log.only hob (fun k hk _ e => hx.fl.1 (e ▸ hk))
  · rw [e2]; exact hx.mks.only hob (fun e => hx.ne.1 e.symm) (fun e => hx.ne.2.1 e.symm)
  · rw [e3]; exact hx.prs.only hob (fun e => hx.ne.2.2.1 e.symm)
  · rw [e4]; exact hx.ovs.only hob (fun e => hx.ne.2.2.2.1 e.symm)
  · intro k hk; have := hx.bg k hk; simpa using this
  · intro k hk; have := hx.bl k hk; simpa using this
set_option maxHeartbeats 1000000 in
theorem putE2 {N b : Nat} (hT : Tabs N w) (s : ByteArray) (hs : s.size ≤ 262144) (hv : (charsD s.data.toList).isSome = true) (h0 : (chrs s).length = 0) (at_ : Int) (bf : Bool) :
    Calls Tryz.prog 105 #[pAt b, .int .i64 at_, .string s, .bool bf] w fun r w' => r = .returned (.tuple #[]) ∧ Below w.heap.size w w' := by
  have hLn := runesLen s w (by omega) hT
  rw [rlenG_chars hv, h0] at hLn
  have HLn := Lib.hid hLn
  clear hLn hT h0 hv hs
  go_enter Tryz.func105, Tryz.ntmps105
  go_wp2_with fail
  refine HLn.out.mono ?_
  rintro e w1 ⟨rfl, hb1⟩
  go_wp2_with fail
  refine bodyPost_ret (results_none rfl _ _ _) rfl ?_
  exact ⟨rfl, hb1⟩
/-- All blocks that an edit turns lie from N on. -/
structure Abv (N b : Nat) (Fg Fl : Nat → Prop) (S : BS) : Prop where
  b : N ≤ b
  g : ∀ k, Fg k → N ≤ k
  l : ∀ k, Fl k → N ≤ k
  p : N ≤ S.p
  o : N ≤ S.o
theorem Abv.ed {N : Nat} (h : Abv N b Fg Fl S) : ∀ k, edFoot b Fg Fl S k → N ≤ k := fun k hk => by
  rcases hk with rfl | hk | hk | rfl | rfl
  · exact h.b
  · exact h.g k hk
  · exact h.l k hk
  · exact h.p
  · exact h.o
theorem Abv.to {N n : Nat} {Fg' Fl' : Nat → Prop} (h : Abv N b Fg Fl S) (hn : N ≤ n) (h1 : ∀ k, Fg' k → grow Fg n k) (h2 : ∀ k, Fl' k → grow Fl n k) (hp : S'.p = S.p) (ho : S'.o = S.o) : Abv N b Fg' Fl' S' :=
  ⟨h.b, fun k hk => (h1 k hk).elim (h.g k) (fun e => by omega), fun k hk => (h2 k hk).elim (h.l k) (fun e => by omega), by rw [hp]; exact h.p, by rw [ho]; exact h.o⟩
set_option maxHeartbeats 1000000 in
theorem gput0 {N : Nat} (hT : Tabs N w) (hR : Rules N w) (h : PlainX w b Fg Fl mm pr ev S cs L) (hlg : S.logs = true) (hNb : N ≤ b) (hNg : ∀ k, Fg k → N ≤ k) (hNl : ∀ k, Fl k → N ≤ k)
    (hsn : Sane S cs.length) (htk : S.tick ≤ 1000000) (hrm : Room L 4)
    (a : Nat) (ha1 : 1 ≤ a) (ha2 : a ≤ cs.length + 1) (s : ByteArray) (hs : s.size ≤ 262144) (hv : (charsD s.data.toList).isSome = true) (hfit : cs.length + (chrs s).length ≤ 65536) (bf : Bool) :
    Calls Tryz.prog 105 #[pAt b, .int .i64 a, .string s, .bool bf] w fun r w' => r = .returned (.tuple #[]) ∧ ∃ L', PutL S L a (chrs s).length L' ∧
      PlainTo w b Fg Fl mm pr ev S (putS0 S a (chrs s).length bf) (insC cs a (chrs s)) L' w' := by
  have hle := h.gap.le
  have h1 := hsn.l1; have h2 := hsn.lp; have h3 := hsn.ph; have h4 := hsn.hn; have h5 := hsn.ma
  unfold putS0 PutL
  by_cases h0 : (chrs s).length = 0
  · have he : chrs s = [] := List.eq_nil_of_length_eq_zero h0
    have hi : insC cs a (chrs s) = cs := by unfold insC; rw [he]; simp
    rw [if_pos h0, hi]
    exact (putE2 hT s hs hv h0 a bf).mono fun e w' ⟨he', hb⟩ => ⟨he', L, by rw [if_pos h0], PlainTo.of_up h hb⟩
  · rw [if_neg h0]
    refine (gput hT hR h hlg hNb hNg hNl (by omega) (by omega) (by omega) (by omega) htk hrm a ha1 ha2 s hs hv (by omega) hfit bf).mono ?_
    rintro e w' ⟨he, q, hq, hp⟩
    exact ⟨he, _, by rw [if_neg h0]; exact ⟨q, hq, rfl⟩, hp⟩
theorem PlainX.getAt (h : PlainX w b Fg Fl mm pr ev S cs L) : GetAt w S.p (fun _ _ => none) := getAt0 h.prs
theorem PlainX.size (h : PlainX w b Fg Fl mm pr ev S cs L) : ∀ w1, Below w.heap.size w w1 → Calls Tryz.prog 61 #[pAt S.t] w1 fun r w2 => r = .returned (.int .i64 cs.length) ∧ Below w1.heap.size w1 w2 := fun w1 hb => by
  obtain ⟨g, hg⟩ := (h.gap.up hb).r
  exact gsize hg
theorem reachB_pt (hs : Sane S cs.length) : reachB S S.pt S.pt = true := by
  unfold reachB
  have := hs.lp; have := hs.ph
  rw [decide_eq_true (by omega), decide_eq_true (by omega), decide_eq_true (by omega)]; rfl
theorem gapB_free (h : S.ro = false) (a : Int) : gapB S (fun _ _ => none) a = true := by unfold gapB; rw [h]; simp [lockB]
set_option maxRecDepth 100000 in
set_option maxHeartbeats 4000000 in
theorem binsert {N : Nat} (hT : Tabs N w) (hR : Rules N w) (h : PlainX w b Fg Fl mm pr ev S cs L) (hlg : S.logs = true) (hro : S.ro = false) (hab : Abv N b Fg Fl S)
    (hsn : Sane S cs.length) (htk : S.tick ≤ 1000000) (hrm : Room L 4) (s : ByteArray) (hs : s.size ≤ 262144) (bf : Bool) :
    Calls Tryz.prog 56 #[pAt b, .string s, .bool bf] w fun r w' => r = .returned (.int .i64 (fitsE s cs.length 0)) ∧
      (fitsE s cs.length 0 ≠ 0 → Below w.heap.size w w') ∧ (fitsE s cs.length 0 = 0 → ∃ L', PutL S L S.pt (chrs s).length L' ∧ PlainTo w b Fg Fl mm pr ev S { putS0 S S.pt (chrs s).length bf with pt := S.pt + (chrs s).length } (insC cs S.pt (chrs s)) L' w') := by
  have hle := h.gap.le
  have hrp := reachB_pt hsn
  have hgp := gapB_free hro (S.pt : Int)
  have hsl := chrs_len s
  obtain ⟨P, hP⟩ : ∃ P, P = S.pt := ⟨_, rfl⟩
  have c0 : w.cell? ⟨b, 0, none⟩ = some (.int .i64 (P : Int)) := by rw [hP]; exact h.blk.cell (j := 0) rfl
  have HB := Lib.hid (⟨hlg, hab, hsn, htk, hrm, hs, hle, hsl, hP⟩ : _ ∧ _ ∧ _ ∧ _ ∧ _ ∧ _ ∧ _ ∧ _ ∧ _)
  have HT := Lib.hid hT
  have HR := Lib.hid hR
  have H := Lib.hid h
  have HN := Lib.hid (bnoneB h.blk)
  rw [← hP] at hrp hgp ⊢
  have HRP := Lib.hid (⟨hrp, hgp⟩ : _ ∧ _)
  clear hT hR h hlg hro hab hsn htk hrm hs hle hsl hP hrp hgp
  go_enter Tryz.func56, Tryz.ntmps56
  go_wp2_with fail
  refine HN.out.mono ?_
  rintro e w0 ⟨rfl, rfl⟩
  go_wp2_with fail
  refine (within_ok H.out.blk P P).mono ?_
  rintro e w1 ⟨k1, k2, rfl, hb1, hc1⟩
  rw [HRP.out.1] at hc1 ⊢
  change ChkAt w1 True (unlC k1 k2 0) at hc1
  have C1 := Lib.hid hc1
  have B1 := Lib.hid hb1
  clear hc1 hb1 HN
  go_wp2_with fail
  refine (gapOpen_ok (H.out.blk.up B1.out) (H.out.up B1.out).getAt P).mono ?_
  rintro e w2 ⟨k3, k4, rfl, hb2, hc2⟩
  rw [HRP.out.2] at hc2 ⊢
  change ChkAt w2 _ (unlC k3 k4 0) at hc2
  have C2 := Lib.hid hc2
  have B2 := Lib.hid (up2 B1.out hb2)
  have C12 := Lib.hid (C1.out.up hb2)
  clear hc2 hb2 C1 B1
  go_wp2_with fail
  refine (fits_ok (n := cs.length) (HT.out.up B2.out) (H.out.blk.up B2.out) s (by have := HB.out; omega) 0 (by have := HB.out; omega) (H.out.up B2.out).size).mono ?_
  rintro e w3 ⟨k5, k6, k7, rfl, hb3, hc3⟩
  obtain ⟨E, hE⟩ : ∃ E, E = fitsE s cs.length 0 := ⟨_, rfl⟩
  rw [← hE] at hc3 ⊢
  have HE := Lib.hid hE
  clear hE
  have C3 := Lib.hid hc3
  have B3 := Lib.hid (up2 B2.out hb3)
  have C13 := Lib.hid (C12.out.up hb3)
  have C23 := Lib.hid (C2.out.up hb3)
  clear hc3 hb3 C2 B2 C12
  go_wp2_with fail
  have hb4 := below1 w3 (.cells #[(unlC k1 k2 0).val, (unlC k3 k4 0).val, (fitC k5 k6 k7 E).val] 67)
  have hR3 := RSl.arr (enc := encK) (zs := [unlC k1 k2 0, unlC k3 k4 0, fitC k5 k6 k7 E]) (MapKept.heap_alloc w3 (.cells #[(unlC k1 k2 0).val, (unlC k3 k4 0).val, (fitC k5 k6 k7 E).val] 67)).1 rfl
  have HF := first_any hR3 3 (by simp) (by
    intro c hc
    simp only [List.mem_cons, List.not_mem_nil, or_false] at hc
    rcases hc with rfl | rfl | rfl
    · exact C13.out.en
    · exact C23.out.en
    · exact C3.out.en) (by
    intro i c w4 hi hz hb
    rcases i with _ | _ | _ | i
    · cases hi; exact C13.out.run trivial w4 (up2 hb4 hb)
    · cases hi; exact C23.out.run ⟨by omega, by have := HB.out.2.2.1.ph; have := HB.out.2.2.1.hn; have := HB.out; omega⟩ w4 (up2 hb4 hb)
    · cases hi; exact C3.out.run ⟨by omega, by omega⟩ w4 (up2 hb4 hb)
    · simp at hi)
  have B4 := Lib.hid (up2 B3.out hb4)
  have hfe : firstE [unlC k1 k2 0, unlC k3 k4 0, fitC k5 k6 k7 E] = E := by
    simp only [firstE, if_pos]
    split
    · rename_i h; exact h.symm
    · rfl
  rw [hfe] at HF
  have HF := Lib.hid HF
  clear hR3 hb4 C13 C23 C3 B3 hfe
  refine HF.out.mono ?_
  rintro e w5 ⟨rfl, hb5⟩
  have B5 := Lib.hid (up2 B4.out hb5)
  clear hb5 B4 HF
  by_cases hE : E = 0
  · rw [hE]
    go_wp2_with fail
    have hfit : (charsD s.data.toList).isSome = true ∧ cs.length + (chrs s).length ≤ 65536 := by
      have h1 := HE.out
      rw [hE] at h1
      unfold fitsE at h1
      split at h1
      · rename_i hv
        rw [vld_chars] at hv
        rw [rlenG_chars hv] at h1
        split at h1
        · omega
        · exact ⟨hv, by omega⟩
      · omega
    have HF := Lib.hid hfit
    clear hfit
    obtain ⟨x1, x2, x3, x4, x5, x6, x7, x8, x9⟩ := HB.out
    refine (gput0 (HT.out.up B5.out) (HR.out.up B5.out) (H.out.up B5.out) x1 x2.b x2.g x2.l x3 x4 x5 P (by have := x3.l1; have := x3.lp; omega) (by have := x3.ph; have := x3.hn; omega) s x6 HF.out.1 HF.out.2 bf).mono ?_
    rintro e w6 ⟨rfl, L', hL', hp6⟩
    have PP := Lib.hid (hp6.pre B5.out)
    have T6 := (HT.out.up B5.out).only hp6.1 x2.ed
    have hLn := runesLen s w6 (by omega) T6
    rw [rlenG_chars HF.out.1] at hLn
    have HLn := Lib.hid hLn
    have HL' := Lib.hid hL'
    have s1 : IntKind.i64.wrap ((P : Int) + ((chrs s).length : Int)) = ((P + (chrs s).length : Nat) : Int) := by rw [IntWalk.i64_in _ (by have := x3.ph; have := x3.hn; omega)]; omega
    clear hp6 T6 hLn hL' HT HR H x1 x2 x3 x4 x5 x6 x7 x8 x9 B5
    go_wp2_with fail
    refine HLn.out.mono ?_
    rintro e w7 ⟨rfl, hb7⟩
    have P7 := Lib.hid (PP.out.post hb7)
    obtain ⟨_, Fg7, Fl7, hx7, _, _⟩ := P7.out
    have q0 := hx7.blk.cell (j := 0) rfl
    have f0 := hx7.blk.fz 0
    clear hb7 hx7 PP HLn
    go_wp2_with fail
    go_ret
    refine ⟨by rw [← HE.out, hE]; rfl, fun h0 => absurd (HE.out.symm.trans hE) h0, fun _ => ⟨L', HL'.out, ?_⟩⟩
    have := P7.out.cell (j := 0) (v := .int .i64 ((P + (chrs s).length : Nat) : Int)) (S2 := { putS0 S P (chrs s).length bf with pt := P + (chrs s).length }) (by omega) rfl ⟨rfl, rfl, rfl, rfl, rfl, rfl⟩
    exact this
  · have e1 : ((E : Int) == 0) = false := by simpa using hE
    have e2 : (E = 0) = False := eq_false hE
    have HEN := Lib.hid hE
    clear hE
    go_wp2_with fail
    go_ret
    have hE := HEN.out
    exact ⟨by rw [← HE.out]; rfl, fun _ => B5.out, fun h0 => absurd (HE.out.trans h0) hE⟩
end
end Go.Proofs.YtnbccoelbfgmgaaGreatDoor
/- package gap: span, Slice. -/
namespace Go.Proofs.YtnbccoelbfgmgaaGreatDoor
open Go.RowKit
set_option linter.unusedVariables false
set_option linter.unusedSimpArgs false
def subL (cs : List Nat) (x y : Nat) : List Nat := (cs.drop (x - 1)).take (y - x)
section
variable {w w' : World} {t g : Nat} {cs : List Nat}
set_option maxHeartbeats 1000000 in
theorem gspan_ok (h : GapR w t g cs) (x y : Nat) (h1 : 1 ≤ x) (h2 : x ≤ y) (h3 : y ≤ cs.length + 1) : Calls Tryz.prog 128 #[.pointer (some ⟨t, 0, none⟩), .int .i64 x, .int .i64 y] w fun e w' => e = .returned (.bool true) ∧ Below w.heap.size w w' := by
  have hl := h.len
  have HS := Lib.hid (gsize h)
  have d1 : decide ((1 : Int) ≤ (x : Int)) = true := decide_eq_true (by omega)
  have d2 : (x ≤ y) = True := by simp; omega
  obtain ⟨n, hn⟩ : ∃ n, cs.length + 1 = n := ⟨_, rfl⟩
  have s1 : IntKind.i64.wrap ((cs.length : Int) + 1) = (n : Int) := by rw [IntWalk.i64_in _ (by omega)]; omega
  rw [hn] at h3
  have d3 : (y ≤ n) = True := by simp; omega
  clear h h1 h2 h3 hn
  go_enter Tryz.func128, Tryz.ntmps128
  go_wp2_with fail
  refine HS.out.mono ?_
  rintro e w1 ⟨rfl, hb1⟩
  go_wp2_with fail
  go_ret
  exact ⟨rfl, hb1⟩
/-- A part of the gap buffer's block, as a string. -/
theorem GapI.conv {B : List Int} {cap st en : Nat} (h : GapI w t g B cap st en cs) (a b c : Nat) (hab : a ≤ b) (hb : b ≤ B.length) :
    (convert 162 9 (.slice (some ⟨g, a, none⟩) (b - a) c)).run Tryz.prog w = .ok (.string (runesBytes ((B.drop a).take (b - a)))) w := by
  have hr := run_convert_runes (P := Tryz.prog) w 162 9 21 ⟨g, a, none⟩ (b - a) c ((B.drop a).take (b - a)) (by rw [List.length_take, List.length_drop]; omega) Tryz.underlying162 Tryz.underlying21 Tryz.underlying9 (fun j hj => by
    rw [List.length_take, List.length_drop] at hj
    have hz : B[a + j]? = some (((B.drop a).take (b - a)).getD j 0) := by
      rw [List.getD_eq_getElem?_getD, List.getElem?_take, if_pos (by omega), List.getElem?_drop, List.getElem?_eq_getElem (show a + j < B.length by omega)]; rfl
    have := h.hb (a + j) _ hz
    rw [Go.WideShapes.add_plain]; exact this)
  rw [hr, List.take_take, Nat.min_self]
theorem part_lo {B R : List Int} {a b st : Nat} (h : b ≤ st) (hs : st ≤ B.length) : (B.drop a).take (b - a) = ((B.take st ++ R).drop a).take (b - a) := by
  apply List.ext_getElem?
  intro i
  rw [List.getElem?_take, List.getElem?_take]
  split
  · rw [List.getElem?_drop, List.getElem?_drop, List.getElem?_append_left (by rw [List.length_take]; omega), List.getElem?_take, if_pos (by omega)]
  · rfl
theorem part_hi {B : List Int} {a b st en : Nat} (h : st ≤ a) (h1 : st ≤ en) (hs : en ≤ B.length) : (B.drop (a + (en - st))).take (b - a) = ((B.take st ++ B.drop en).drop a).take (b - a) := by
  apply List.ext_getElem?
  intro i
  rw [List.getElem?_take, List.getElem?_take]
  split
  · rw [List.getElem?_drop, List.getElem?_drop, List.getElem?_append_right (by rw [List.length_take]; omega), List.getElem?_drop, List.length_take]
    congr 1
    omega
  · rfl
theorem part_mid {B : List Int} {a b st en : Nat} (h : a ≤ st) (hb : st ≤ b) (h1 : st ≤ en) (hs : en ≤ B.length) : (B.drop a).take (st - a) ++ (B.drop en).take (b - st) = ((B.take st ++ B.drop en).drop a).take (b - a) := by
  have e1 : (B.take st ++ B.drop en).drop a = (B.drop a).take (st - a) ++ B.drop en := by
    rw [List.drop_append_of_le_length (by rw [List.length_take]; omega), List.drop_take]
  have hl : ((B.drop a).take (st - a)).length = st - a := by rw [List.length_take, List.length_drop]; omega
  rw [e1, List.take_append, hl, show b - a - (st - a) = b - st by omega]
  congr 1
  exact (List.take_of_length_le (by rw [hl]; omega)).symm
theorem encS_part (cs : List Nat) (a n : Nat) : encS ((cs.drop a).take n) = runesBytes (((cs.map Int.ofNat).drop a).take n) := by
  unfold encS
  rw [List.map_take, List.map_drop]; rfl
set_option maxRecDepth 100000 in
set_option maxHeartbeats 4000000 in
theorem gslice_ok (h : GapR w t g cs) (x y : Nat) (h1 : 1 ≤ x) (h2 : x ≤ y) (h3 : y ≤ cs.length + 1) : Calls Tryz.prog 81 #[.pointer (some ⟨t, 0, none⟩), .int .i64 x, .int .i64 y] w fun e w' => e = .returned (.tuple #[.string (encS (subL cs x y)), .int .i64 0]) ∧ Below w.heap.size w w' := by
  have HSP := Lib.hid (gspan_ok h x y h1 h2 h3)
  obtain ⟨B, cap, st, en, h⟩ := h
  have hlen := h.len
  have hc := h.hc
  have hm := h.hm
  have q1 := h.h1
  have q2 := h.h2
  have HN := Lib.hid (gnone h)
  have H := Lib.hid h
  obtain ⟨a, ha⟩ : ∃ a, a + 1 = x := ⟨x - 1, by omega⟩
  obtain ⟨b, hb⟩ : ∃ b, b + 1 = y := ⟨y - 1, by omega⟩
  have s1 : IntKind.i64.wrap ((x : Int) - 1) = (a : Int) := by rw [IntWalk.i64_in _ (by omega)]; omega
  have s2 : IntKind.i64.wrap ((y : Int) - 1) = (b : Int) := by rw [IntWalk.i64_in _ (by omega)]; omega
  have hab : a ≤ b := by omega
  have hbn : b ≤ cs.length := by omega
  have HE : Hid (subL cs x y = (cs.drop a).take (b - a)) := Lib.hid (by unfold subL; rw [show x - 1 = a by omega, show y - x = b - a by omega])
  clear h h1 h2 h3
  go_enter Tryz.func81, Tryz.ntmps81
  go_wp2_with fail
  refine HN.out.mono ?_
  rintro e w1 ⟨rfl, rfl⟩
  go_wp2_with fail
  refine HSP.out.mono ?_
  rintro e w1 ⟨rfl, hb1⟩
  have h1 := H.out.up hb1
  have H1 := Lib.hid h1
  have c0 := h1.c0
  have c1 := h1.c1
  have c2 := h1.c2
  clear h1 H HSP HN
  by_cases hA : b ≤ st
  · have d1 : (b ≤ st) = True := by simp; omega
    have hcv := fun c => H1.out.conv a b c hab (by omega)
    rw [part_lo (R := B.drop en) hA (by omega), H1.out.hB, ← encS_part, ← HE.out] at hcv
    by_cases hca : cap = a
    · have hcv0 := fun c => H1.out.conv 0 0 c (Nat.le_refl _) (Nat.zero_le _)
      have e0 : b - a = 0 := by omega
      have e1 : subL cs x y = [] := by rw [HE.out, e0]; rfl
      have hcv1 : ∀ c, (convert 162 9 (.slice (some ⟨g, 0, none⟩) (b - a) c)).run Tryz.prog w1 = .ok (.string (encS (subL cs x y))) w1 := fun c => by rw [e0, e1]; exact hcv0 c
      clear hcv hcv0 e0 e1 HE
      go_wp2_with fail
      go_ret2
      exact ⟨rfl, hb1⟩
    · clear HE
      go_wp2_with fail
      go_ret2
      exact ⟨rfl, hb1⟩
  · have d1 : (b ≤ st) = False := by simp; omega
    by_cases hB : st ≤ a
    · have d2 : (st ≤ a) = True := by simp; omega
      have s3 : IntKind.i64.wrap ((a : Int) + (en : Int)) = ((a + en : Nat) : Int) := by rw [IntWalk.i64_in _ (by omega)]; omega
      have s4 : IntKind.i64.wrap (((a + en : Nat) : Int) - (st : Int)) = ((a + (en - st) : Nat) : Int) := by rw [IntWalk.i64_in _ (by omega)]; omega
      have s5 : IntKind.i64.wrap ((b : Int) + (en : Int)) = ((b + en : Nat) : Int) := by rw [IntWalk.i64_in _ (by omega)]; omega
      have s6 : IntKind.i64.wrap (((b + en : Nat) : Int) - (st : Int)) = ((b + (en - st) : Nat) : Int) := by rw [IntWalk.i64_in _ (by omega)]; omega
      obtain ⟨a', ha'⟩ : ∃ a', a + (en - st) = a' := ⟨_, rfl⟩
      obtain ⟨b', hb'⟩ : ∃ b', b + (en - st) = b' := ⟨_, rfl⟩
      obtain ⟨a2, ha2⟩ : ∃ a2, a + en = a2 := ⟨_, rfl⟩
      obtain ⟨b2, hb2⟩ : ∃ b2, b + en = b2 := ⟨_, rfl⟩
      rw [ha2] at s3 s4
      rw [hb2] at s5 s6
      rw [ha'] at s4
      rw [hb'] at s6
      have hab' : a' ≤ b' := by omega
      have hbB : b' ≤ B.length := by omega
      have hcv : ∀ (X : UpW w1.heap.size w1) c, (convert 162 9 (.slice (some ⟨g, a', none⟩) (b' - a') c)).run Tryz.prog X.w = .ok (.string (encS (subL cs x y))) X.w := fun X c => by
        rw [(H1.out.up X.up).conv a' b' c hab' hbB, HE.out, encS_part, ← H1.out.hB, ← part_hi hB q1 q2, ha', show b' - a' = b - a by omega]
      have C0 : ∀ X : UpW w1.heap.size w1, X.w.cell? ⟨t, 0, none⟩ = _ := fun X => (H1.out.up X.up).c0
      have C1 : ∀ X : UpW w1.heap.size w1, X.w.cell? ⟨t, 1, none⟩ = _ := fun X => (H1.out.up X.up).c1
      have C2 : ∀ X : UpW w1.heap.size w1, X.w.cell? ⟨t, 2, none⟩ = _ := fun X => (H1.out.up X.up).c2
      have hbc : b' ≤ cap := by omega
      by_cases hca : cap = a'
      · have hcv1 : ∀ (X : UpW w1.heap.size w1) c, (convert 162 9 (.slice (some ⟨g, 0, none⟩) (b' - a') c)).run Tryz.prog X.w = .ok (.string (encS (subL cs x y))) X.w := fun X c => by
          have e0 : b' - a' = 0 := by omega
          have e1 : subL cs x y = [] := by rw [HE.out, show b - a = 0 by omega]; rfl
          rw [e0, e1]; exact (H1.out.up X.up).conv 0 0 c (Nat.le_refl _) (Nat.zero_le _)
        clear ha' hb' ha2 hb2 ha hb HE hcv
        go_wp2_with fail
        refine wp_region_up w1.heap.size (by kernel_rfl) (by kernel_rfl) ?_
        repeat (go_big_quiet_step (fail))
        refine wpQuiet_nil ?_
        rintro ⟨w2, hbb⟩
        dsimp only
        clear C0 C1 C2
        go_wp2_with fail
        go_ret2
        exact ⟨rfl, up2 hb1 hbb⟩
      · clear ha' hb' ha2 hb2 ha hb HE
        go_wp2_with fail
        refine wp_region_up w1.heap.size (by kernel_rfl) (by kernel_rfl) ?_
        repeat (go_big_quiet_step (fail))
        refine wpQuiet_nil ?_
        rintro ⟨w2, hbb⟩
        dsimp only
        clear C0 C1 C2
        go_wp2_with fail
        go_ret2
        exact ⟨rfl, up2 hb1 hbb⟩
    · have d2 : (st ≤ a) = False := by simp; omega
      have s5 : IntKind.i64.wrap ((b : Int) + (en : Int)) = ((b + en : Nat) : Int) := by rw [IntWalk.i64_in _ (by omega)]; omega
      have s6 : IntKind.i64.wrap (((b + en : Nat) : Int) - (st : Int)) = ((b + (en - st) : Nat) : Int) := by rw [IntWalk.i64_in _ (by omega)]; omega
      obtain ⟨b', hb'⟩ : ∃ b', b + (en - st) = b' := ⟨_, rfl⟩
      obtain ⟨b2, hb2⟩ : ∃ b2, b + en = b2 := ⟨_, rfl⟩
      rw [hb2] at s5 s6
      rw [hb'] at s6
      have hab' : en ≤ b' := by omega
      have hbB : b' ≤ B.length := by omega
      have hbc : b' ≤ cap := by omega
      have has : a ≤ st := by omega
      have hsc : st ≤ cap := by omega
      have hca : ¬ cap = a := by omega
      have hce : ¬ cap = en := by omega
      obtain ⟨S1, hS1⟩ : ∃ S1, runesBytes ((B.drop a).take (st - a)) = S1 := ⟨_, rfl⟩
      obtain ⟨S2, hS2⟩ : ∃ S2, runesBytes ((B.drop en).take (b' - en)) = S2 := ⟨_, rfl⟩
      have hcv1 : ∀ (X : UpW w1.heap.size w1) c, (convert 162 9 (.slice (some ⟨g, a, none⟩) (st - a) c)).run Tryz.prog X.w = .ok (.string S1) X.w := fun X c => by
        rw [(H1.out.up X.up).conv a st c has (by omega), hS1]
      have hcv2 : ∀ (X : UpW w1.heap.size w1) c, (convert 162 9 (.slice (some ⟨g, en, none⟩) (b' - en) c)).run Tryz.prog X.w = .ok (.string S2) X.w := fun X c => by
        rw [(H1.out.up X.up).conv en b' c hab' hbB, hS2]
      have hfin : encS (subL cs x y) = S1 ++ S2 := by
        rw [HE.out, encS_part, ← H1.out.hB, ← part_mid has (by omega) q1 q2, ← hS1, ← hS2, show b' - en = b - st by omega]
        apply bytes_ext
        have hr := fun (l : List Int) (s : ByteArray) => (show (l.foldl (fun r n => r ++ Utf8.encode n) s).data.toList = s.data.toList ++ l.flatMap (fun n => (Utf8.encode n).data.toList) from by
          induction l generalizing s with
          | nil => simp
          | cons c l ih => rw [List.foldl_cons, ih]; simp)
        unfold runesBytes
        rw [hr, List.flatMap_append]
        simp only [ByteArray.data_append, Array.toList_append, hr]
        simp
      have HF := Lib.hid hfin
      have z1 : S1.size ≤ 4 * B.length := by
        have := runesBytes_size_le ((B.drop a).take (st - a))
        rw [hS1, List.length_take, List.length_drop] at this; omega
      have z2 : S2.size ≤ 4 * B.length := by
        have := runesBytes_size_le ((B.drop en).take (b' - en))
        rw [hS2, List.length_take, List.length_drop] at this; omega
      have hadd : ∀ w, (binOp .add 9 (.string S1) (.string S2)).run Tryz.prog w = .ok (.string (S1 ++ S2)) w := fun w => by
        rw [binOp_string_add]; exact run_string_add_sum _ S1 S2 (by omega)
      have C0 : ∀ X : UpW w1.heap.size w1, X.w.cell? ⟨t, 0, none⟩ = _ := fun X => (H1.out.up X.up).c0
      have C1 : ∀ X : UpW w1.heap.size w1, X.w.cell? ⟨t, 1, none⟩ = _ := fun X => (H1.out.up X.up).c1
      have C2 : ∀ X : UpW w1.heap.size w1, X.w.cell? ⟨t, 2, none⟩ = _ := fun X => (H1.out.up X.up).c2
      clear hb' hb2 ha hb HE hS1 hS2 hfin
      go_wp2_with fail
      refine wp_region_up w1.heap.size (by kernel_rfl) (by kernel_rfl) ?_
      repeat (go_big_quiet_step (fail))
      refine wpQuiet_nil ?_
      rintro ⟨w2, hbb⟩
      dsimp only
      clear C0 C1 C2
      go_wp2_with fail
      go_ret2
      exact ⟨by rw [HF.out]; rfl, up2 hb1 hbb⟩
end
end Go.Proofs.YtnbccoelbfgmgaaGreatDoor
