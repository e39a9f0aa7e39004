import Derived.Test.YtobnmpgfkgoapaaGreatDoorZ15
import Derived.Test.YtobnmpgfkgoapaaGreatDoorZ00
import Derived.IntWalk
/- copyistlaw20: lives. -/
namespace Go.Proofs.YtobnmpgfkgoapaaGreatDoor
open Go.RowKit Go.Lib
set_option linter.unusedVariables false
set_option linter.unusedSimpArgs false
/-- A buffer made since B0: its blocks lie from B0 on, and nothing below turned since w. -/
structure St (N : Nat) (w : World) (B0 b : Nat) (w' : World) (T : Tx) (B : Nat) : Prop where
  bl : Below B0 w w'
  pb : PB N w' b (fun k => B0 ≤ k) T B
  sz : B0 ≤ w'.heap.size
section
variable {w w1 w2 : World} {N B0 b B1 B2 : Nat} {T1 T2 : Tx}
theorem St.next (h : St N w B0 b w1 T1 B1) (k : Only (fun k => B0 ≤ k) w1 w2 ∧ PB N w2 b (grow (fun k => B0 ≤ k) w1.heap.size) T2 B2) : St N w B0 b w2 T2 B2 :=
  ⟨h.bl.trans (k.1.below h.sz (fun k hk => hk)), k.2.mono (fun k hk => hk.elim id (fun e => by have := h.sz; omega)) (Nat.le_refl _), by have := k.1.size; have := h.sz; omega⟩
theorem St.same (h : St N w B0 b w1 T1 B1) (k : Only (fun k => B0 ≤ k) w1 w2 ∧ PB N w2 b (fun k => B0 ≤ k) T2 B2) : St N w B0 b w2 T2 B2 :=
  ⟨h.bl.trans (k.1.below h.sz (fun k hk => hk)), k.2, by have := k.1.size; have := h.sz; omega⟩
theorem St.up (h : St N w B0 b w1 T1 B1) (k : Below w1.heap.size w1 w2) : St N w B0 b w2 T1 B1 :=
  ⟨h.bl.trans (k.mono h.sz), h.pb.up k, by have := k.size; have := h.sz; omega⟩
theorem St.tabs (h : St N w B0 b w1 T1 B1) (hN : N ≤ B0) (hw : B0 ≤ w.heap.size) (hT : Tabs N w) : Tabs N w1 := Tabs.only hT (S := fun k => B0 ≤ k) ⟨h.bl.os, h.bl.tape, h.bl.output, by have := h.bl.size; omega, fun i hi hs => h.bl.block i (by omega)⟩ (fun k hk => Nat.le_trans hN hk)
theorem St.rules (h : St N w B0 b w1 T1 B1) (hN : N ≤ B0) (hw : B0 ≤ w.heap.size) (hR : Rules N w) : Rules N w1 := Rules.only hR (Z := fun k => B0 ≤ k) ⟨h.bl.os, h.bl.tape, h.bl.output, by have := h.bl.size; omega, fun i hi hs => h.bl.block i (by omega)⟩ (fun k hk => Nat.le_trans hN hk)
set_option maxHeartbeats 1000000 in
theorem bpointB {S : BS} (h : BufB w b S) : Calls Tryz.prog 10 #[pAt b] w fun e w' => e = .returned (.int .i64 S.pt) ∧ w = w' := by
  have c0 : w.cell? ⟨b, 0, none⟩ = some (.int .i64 (S.pt : Int)) := h.cell (j := 0) rfl
  have HN := Lib.hid (bnoneB h)
  clear h
  go_enter Tryz.func10, Tryz.ntmps10
  go_wp2_with fail
  refine HN.out.mono ?_
  rintro r w' ⟨rfl, rfl⟩
  go_wp2_with fail
  go_ret
  exact ⟨rfl, rfl⟩
set_option maxRecDepth 100000 in
set_option maxHeartbeats 4000000 in
theorem lives_ok (hT : Tabs N w) (hR : Rules N w) (hN : N ≤ w.heap.size) :
    Calls Tryz.prog 4 #[] w fun r w' => r = .returned (.bool true) ∧ Below w.heap.size w w' := by
  have HT := Lib.hid hT
  have HR := Lib.hid hR
  have HN := Lib.hid hN
  clear hT hR hN
  go_enter Tryz.func4, Tryz.ntmps4
  go_wp2_with fail
  have hw := with_ok HT.out HR.out HN.out ⟨#[104, 101, 108, 108, 111]⟩ (by decide)
  refine hw.mono ?_
  rintro e w1 ⟨b, t, m, p, o, l, rfl, hb1, hp1⟩
  have hp1 := hp1 rfl
  rw [chrs_hello] at hp1
  have hv : (charsD (ByteArray.mk #[104, 101, 108, 108, 111]).data.toList).isSome = true := rfl
  rw [hv]
  have S1 := Lib.hid (show St N w w.heap.size b w1 (lv1 t m p o l) 5 from ⟨hb1, hp1.mono (fun k hk => hk.1) (Nat.le_refl _), hb1.size⟩)
  have HED := Lib.hid (show edF N (fun k => w.heap.size ≤ k) from fun k hk => Nat.le_trans HN.out hk)
  clear hb1 hp1 hw hv
  have hg := bGoto S1.out.pb 1
  rw [show delE (lv1 t m p o l) 1 1 = 0 from rfl, if_pos rfl] at hg
  have HG := Lib.hid hg
  clear hg
  go_wp2_with fail
  refine HG.out.mono ?_
  rintro e w2 ⟨rfl, h1, h2⟩
  have S2 := Lib.hid (show St N w w.heap.size b w2 (lv2 t m p o l) 5 from S1.out.next ⟨h1, h2⟩)
  clear h1 h2 HG S1
  have hg := bInsert (S2.out.tabs HN.out (Nat.le_refl _) HT.out) (S2.out.rules HN.out (Nat.le_refl _) HR.out) S2.out.pb (by omega) rfl ⟨#[120]⟩ (by decide)
  rw [show fitsE ⟨#[120]⟩ (lv2 t m p o l).cs.length 0 = 0 from rfl, if_pos rfl, chrs_x] at hg
  have HG := Lib.hid hg
  clear hg
  go_wp2_with fail
  refine HG.out.mono ?_
  rintro e w3 ⟨rfl, h1, h2⟩
  have S3 := Lib.hid (show St N w w.heap.size b w3 (lv3 t m p o l) 9 from S2.out.next ⟨h1, h2⟩)
  clear h1 h2 HG S2
  have hg := pAll S3.out.pb
  rw [lv_e3] at hg
  have HG := Lib.hid hg
  clear hg
  go_wp2_with fail
  refine HG.out.mono ?_
  rintro e w4 ⟨rfl, h1⟩
  have S4 := Lib.hid (S3.out.up h1)
  clear h1 HG S3
  have hg := bUndo (S4.out.tabs HN.out (Nat.le_refl _) HT.out) (S4.out.rules HN.out (Nat.le_refl _) HR.out) S4.out.pb HED.out (d := 100) (by omega) (by rw [lv_g3]; intro g hg; simp at hg; rcases hg with rfl | rfl <;> simp) false (by show (-1 : Int) ≤ _; omega) rfl (by
    rw [lv_g3]
    intro m' g hc hg
    have : m' = 1 := by
      have h2 : ((m' + 1 : Nat) : Int) = 2 := hc.symm
      omega
    subst this
    cases hg
    exact ⟨lv_r3 t m p o l, by decide⟩)
  have HG := Lib.hid hg
  clear hg
  go_wp2_with fail
  refine HG.out.mono ?_
  rintro e w5 ⟨h1, ⟨hc, _⟩ | ⟨m', g, hc, hg, rfl, hp⟩⟩
  · exact absurd (show (2 : Int) = 0 from hc) (by decide)
  have hm' : m' = 1 := by
    have h2 : ((m' + 1 : Nat) : Int) = 2 := hc.symm
    omega
  subst hm'
  rw [lv_g3] at hg
  cases hg
  have S5 := Lib.hid (show St N w w.heap.size b w5 (lv4 t m p o l) (9 + 100 + 2) from S4.out.next ⟨h1, hp⟩)
  clear h1 hp hc HG S4
  have hg := pAll S5.out.pb
  rw [lv_e4] at hg
  have HG := Lib.hid hg
  clear hg
  go_wp2_with fail
  refine HG.out.mono ?_
  rintro e w6 ⟨rfl, h1⟩
  have S6 := Lib.hid (S5.out.up h1)
  clear h1 HG S5
  have hg := bpoint S6.out.pb.r
  rw [lv_p4] at hg
  have HG := Lib.hid hg
  clear hg
  go_wp2_with fail
  refine HG.out.mono ?_
  rintro e w7 ⟨rfl, h1⟩
  have S7 := Lib.hid (h1 ▸ S6.out : St N w w.heap.size b w7 _ _)
  clear h1 HG S6
  have hg := pNarrow S7.out.pb 2 4 (by omega) (by omega) (by rw [lv_c4]; decide)
  have HG := Lib.hid hg
  clear hg
  go_wp2_with fail
  refine HG.out.mono ?_
  rintro e w8 ⟨rfl, h1, h2⟩
  have S8 := Lib.hid (show St N w w.heap.size b w8 (lv5 t m p o l) (9 + 100 + 2) from S7.out.same ⟨h1, h2⟩)
  clear h1 h2 HG S7
  have hg := bpoint S8.out.pb.r
  rw [show (lv5 t m p o l).S.pt = 2 from rfl] at hg
  have HG := Lib.hid hg
  clear hg
  go_wp2_with fail
  refine HG.out.mono ?_
  rintro e w9 ⟨rfl, h1⟩
  have S9 := Lib.hid (h1 ▸ S8.out : St N w w.heap.size b w9 _ _)
  clear h1 HG S8
  have hg := bGoto S9.out.pb 5
  rw [show delE (lv5 t m p o l) 5 5 = 3 from rfl, if_neg (by decide)] at hg
  have HG := Lib.hid hg
  clear hg
  go_wp2_with fail
  refine HG.out.mono ?_
  rintro e w10 ⟨rfl, h1, h2⟩
  have S10 := Lib.hid (show St N w w.heap.size b w10 (lv5 t m p o l) (9 + 100 + 2) from S9.out.next ⟨h1, h2⟩)
  clear h1 h2 HG S9
  have hg := pWiden S10.out.pb
  have HG := Lib.hid hg
  clear hg
  go_wp2_with fail
  refine HG.out.mono ?_
  rintro e w11 ⟨rfl, h1, h2⟩
  have S11 := Lib.hid (show St N w w.heap.size b w11 { lv5 t m p o l with S := { (lv5 t m p o l).S with lo := 1, hi := 6 } } (9 + 100 + 2) from S10.out.same ⟨h1, h2⟩)
  clear h1 h2 HG S10
  have hg := bGoto S11.out.pb 4
  rw [show delE { lv5 t m p o l with S := { (lv5 t m p o l).S with lo := 1, hi := 6 } } 4 4 = 0 from rfl, if_pos rfl] at hg
  have HG := Lib.hid hg
  clear hg
  go_wp2_with fail
  refine HG.out.mono ?_
  rintro e w12 ⟨rfl, h1, h2⟩
  have S12 := Lib.hid (show St N w w.heap.size b w12 { lv5 t m p o l with S := { (lv5 t m p o l).S with lo := 1, hi := 6, pt := 4 } } (9 + 100 + 2) from S11.out.next ⟨h1, h2⟩)
  clear h1 h2 HG S11
  obtain ⟨gg, hgap, hbt, hbg⟩ := S12.out.pb.gap2
  have hgl := hgap
  obtain ⟨_, _, _, _, hgi⟩ := hgl
  have htl : (lv5 t m p o l).S.t < w12.heap.size := hgi.lt
  have hgl := hgi.hg
  have hg := saveB (n := 5) S12.out.pb.blk rfl rfl rfl (by omega) (by show (0 : Nat) ≤ _; omega) S12.out.pb.size
  have HG := Lib.hid hg
  have HGP := Lib.hid hgap
  have HNE := Lib.hid (⟨hbt, hbg, htl, hgl⟩ : _ ∧ _ ∧ _ ∧ _)
  clear hg hgi hbt hbg htl hgl hgap
  go_wp2_with fail
  refine HG.out.mono ?_
  rintro e w13 ⟨rfl, ho13, g, cap, hc1, hc2, hk13, hgb, hR13⟩
  have O13 := Lib.hid ho13
  have B13 := Lib.hid (S12.out.bl.trans (ho13.below S12.out.sz (fun k hk => hk ▸ S12.out.pb.inF.1)))
  have z13 := ho13.size
  have HK := Lib.hid hk13
  have HR13 := Lib.hid hR13
  have HC := Lib.hid (⟨hc1, hc2, hgb⟩ : _ ∧ _ ∧ _)
  have hg := gotoB HK.out 2
  have hq : reachB { (lv5 t m p o l).S with lo := 1, hi := 6, pt := 4, saved := Value.slice (some ⟨g, 0, none⟩) 1 cap, tokens := (lv5 t m p o l).S.tokens + 1 } 2 2 = true := rfl
  have HQ := Lib.hid hq
  have HG := Lib.hid hg
  clear hg ho13 hk13 hR13 hc1 hc2 hgb hq
  go_wp2_with fail
  refine HG.out.mono ?_
  rintro e w14 ⟨he, _, hh⟩
  rw [if_pos HQ.out] at he
  subst he
  obtain ⟨w13', hb14, rfl⟩ := hh HQ.out
  have hk14 : BufB (w13'.setCell ⟨b, 0, none⟩ (.int .i64 2)) b { (lv5 t m p o l).S with lo := 1, hi := 6, pt := 2, saved := Value.slice (some ⟨g, 0, none⟩) 1 cap, tokens := (lv5 t m p o l).S.tokens + 1 } := (HK.out.up hb14).set (j := 0) (by simp) (.int .i64 2)
  have ho14 : Only (fun k => k = b) w13 (w13'.setCell ⟨b, 0, none⟩ (.int .i64 2)) := (Only.of_below (S := fun k => k = b) hb14).setCell (p := ⟨b, 0, none⟩) rfl _
  have hR14 := HR13.out.kept ho14.size (fun g' o e => by
    cases e
    obtain ⟨_, _, e2, hlt, _⟩ := HR13.out (by simp)
    cases e2
    exact ho14.block g hlt HC.out.2.2)
  have HK14 := Lib.hid hk14
  have O14 := Lib.hid (O13.out.trans ho14)
  have B14 := Lib.hid (B13.out.trans (ho14.below (by have := S12.out.sz; omega : w.heap.size ≤ w13.heap.size) (fun k hk => hk ▸ S12.out.pb.inF.1)))
  have hg := restoreB (n := 5) (x := ⟨4, 1, 5 + 1, (lv5 t m p o l).S.mark, (lv5 t m p o l).S.marked, 0, true⟩) HK14.out rfl HC.out.1 HC.out.2.2 hR14 rfl (by omega) (by show (4 : Nat) ≤ _; omega) (fun w1 _ ho => gsize (HGP.out.kept ((O14.out.trans ho).block _ HNE.out.2.2.1 (fun e => HNE.out.1 e.symm)) ((O14.out.trans ho).block _ HNE.out.2.2.2 (fun e => HNE.out.2.1 e.symm)) (O14.out.trans ho).size))
  have HG2 := Lib.hid hg
  clear hg hk14 ho14 hR14 hh hb14 HG HQ HK HR13 O13 B13
  generalize w13'.setCell ⟨b, 0, none⟩ (.int .i64 2) = W14 at *
  go_wp2_with fail
  refine HG2.out.mono ?_
  rintro e w15 ⟨rfl, ho15, hk15⟩
  have B15 := Lib.hid (B14.out.trans (ho15.below (by have := O14.out.size; have := S12.out.sz; omega : w.heap.size ≤ W14.heap.size) (fun k hk => hk ▸ S12.out.pb.inF.1)))
  have hpt := bpointB hk15
  rw [show (min (max 4 1) (5 + 1) : Nat) = 4 from rfl] at hpt
  have HP := Lib.hid hpt
  clear ho15 hk15 hpt HG2 HK14 O14 B14
  go_wp2_with fail
  refine HP.out.mono ?_
  rintro e w16 ⟨rfl, rfl⟩
  go_wp2_with fail
  go_ret
  exact ⟨rfl, B15.out⟩
end
end Go.Proofs.YtobnmpgfkgoapaaGreatDoor
/- package buffer: Replace at a plain buffer. -/
namespace Go.Proofs.YtobnmpgfkgoapaaGreatDoor
open Go.RowKit Go.Lib
set_option linter.unusedVariables false
set_option linter.unusedSimpArgs false
/-- Behind Replace. -/
def repT (T : Tx) (x y : Nat) (s : List Nat) : Tx := putT (takeT T x y) x s false
section
variable {N : Nat} {w w' : World} {b mm : Nat} {F F' Fg Fl : Nat → Prop} {pr ev : Int} {T T' : Tx} {co nw co' nw' : Int} {B B' : Nat}
theorem takeT_len {T : Tx} {x y : Nat} (h1 : 1 ≤ x) (hxy : x ≤ y) (hy : y ≤ T.cs.length + 1) : (takeT T x y).cs.length = T.cs.length - (y - x) := by
  unfold takeT
  split
  · rename_i h; subst h; omega
  · exact delC_len h1 hxy hy
theorem grow_self {n m : Nat} (hn : n ≤ m) : ∀ k, grow (grow F n) m k → grow F n k := grow_two hn
set_option maxRecDepth 100000 in
set_option maxHeartbeats 4000000 in
theorem bReplace1 (hT : Tabs N w) (hR : Rules N w) (h : PB N w b F T B) (hF : edF N F) (hB : B ≤ 700000) (hro : T.S.ro = false) (x y : Int) (hxy : x = y) (s : ByteArray) (hs : s.size ≤ 262144) :
    Calls Tryz.prog 35 #[pAt b, .int .i64 x, .int .i64 y, .string s] w fun r w' => r = .returned (.int .i64 (repE T x y s)) ∧ Only F w w' ∧ PB N w' b (grow F w.heap.size) (if repE T x y s = 0 then repT T x.toNat y.toNat (chrs s) else T) (B + T.cs.length + 8) := by
  have hle := h.le
  have hsn := h.sane
  have hgp := gapB_free (S := T.S) hro x
  have hpb : partB T.S = true := by unfold partB; rw [hro]; simp
  have hsl := chrs_len s
  have HB := Lib.hid (⟨hB, hs, hle, hsl, hsn, hF⟩ : _ ∧ _ ∧ _ ∧ _ ∧ _ ∧ _)
  have HT := Lib.hid hT
  have HR := Lib.hid hR
  have H := Lib.hid h
  have HN := Lib.hid (bnoneB h.blk)
  have HG := Lib.hid (⟨hgp, hpb⟩ : _ ∧ _)
  obtain ⟨ls, hls⟩ : ∃ ls : Int, IntKind.i64.wrap (y - x) = ls := ⟨_, rfl⟩
  obtain ⟨E1, hE1⟩ : ∃ E1 : Int, E1 = if reachB T.S x y = true then 0 else 3 := ⟨_, rfl⟩
  obtain ⟨E3, hE3⟩ : ∃ E3 : Int, E3 = fitsE s T.cs.length ls := ⟨_, rfl⟩
  have hlr : reachB T.S x y = true → ls = y - x := fun hq => by
    have h1 := reach_iff.1 hq
    rw [← hls]
    exact IntWalk.i64_in _ (by have := hsn.hn; omega)
  have hPE : repE T x y s = if E1 = 0 then E3 else E1 := by
    unfold repE; rw [hE1, hE3]
    by_cases hq : reachB T.S x y = true
    · rw [if_pos hq, if_pos hq, if_pos rfl, hlr hq]
    · rw [if_neg hq, if_neg hq, if_neg (by omega)]
  obtain ⟨E, hE⟩ : ∃ E : Int, E = repE T x y s := ⟨_, rfl⟩
  rw [← hE] at hPE ⊢
  obtain ⟨T2, hT2⟩ : ∃ T2 : Tx, T2 = (if E = 0 then repT T x.toNat y.toNat (chrs s) else T) := ⟨_, rfl⟩
  rw [← hT2]
  have HT2 := Lib.hid hT2
  clear hT2
  have HE1 := Lib.hid hE1
  have HE3 := Lib.hid hE3
  have HPE := Lib.hid hPE
  have HE := Lib.hid hE
  have HLR := Lib.hid hlr
  have dx : ((x : Int) == y) = true := by simpa using hxy
  have nx : (x = y) = True := eq_true hxy
  have HXY := Lib.hid hxy
  clear hT hR h hB hs hle hsl hsn hF hgp hpb hro hE1 hE3 hPE hE hlr hxy
  go_enter Tryz.func35, Tryz.ntmps35
  go_wp2_with fail
  refine HN.out.mono ?_
  rintro e w0 ⟨rfl, rfl⟩
  go_wp2_with fail
  refine (partOpen_ok H.out.blk H.out.prs x y).mono ?_
  rintro e w1 ⟨k8, k9, rfl, hb1, hcc⟩
  rw [HG.out.2] at hcc ⊢
  have B1 := Lib.hid hb1
  clear hb1 hcc
  go_wp2_with fail
  refine (gapOpen_ok (H.out.blk.up B1.out) (H.out.up B1.out).getAt x).mono ?_
  rintro e w2 ⟨k3, k4, rfl, hb2, hc2⟩
  rw [HG.out.1] at hc2 ⊢
  change ChkAt w2 _ (unlC k3 k4 0) at hc2
  have C2 := Lib.hid hc2
  have B2 := Lib.hid (up2 B1.out hb2)
  clear hc2 hb2 B1
  go_wp2_with fail
  refine (within_ok (H.out.blk.up B2.out) x y).mono ?_
  rintro e w6 ⟨k1, k2, rfl, hb6, hc1⟩
  rw [← HE1.out] at hc1 ⊢
  have C1 := Lib.hid hc1
  have B6 := Lib.hid (up2 B2.out hb6)
  have C22 := Lib.hid (C2.out.up hb6)
  clear hc1 hb6 C2 B2 HN
  go_wp2_with fail
  refine (fits_ok (n := T.cs.length) (HT.out.up B6.out) (H.out.blk.up B6.out) s (by have := HB.out; omega) ls (by have := HB.out; omega) (H.out.up B6.out).size).mono ?_
  rintro e w3 ⟨k5, k6, k7, rfl, hb3, hc3⟩
  rw [← HE3.out] at hc3 ⊢
  have C3 := Lib.hid hc3
  have B3 := Lib.hid (up2 B6.out hb3)
  have C13 := Lib.hid (C1.out.up hb3)
  have C23 := Lib.hid (C22.out.up hb3)
  clear hc3 hb3 C1 C22 B6
  go_wp2_with fail
  have hb4 := below1 w3 (.cells #[(unlC k1 k2 E1).val, (unlC k3 k4 0).val, (fitC k5 k6 k7 E3).val] 48)
  have hR3 := RSl.arr (enc := encK) (zs := [unlC k1 k2 E1, unlC k3 k4 0, fitC k5 k6 k7 E3]) (MapKept.heap_alloc w3 (.cells #[(unlC k1 k2 E1).val, (unlC k3 k4 0).val, (fitC k5 k6 k7 E3).val] 48)).1 rfl
  have HF := first_any hR3 3 (by simp) (by
    intro c hc
    simp only [List.mem_cons, List.not_mem_nil, or_false] at hc
    rcases hc with rfl | rfl | rfl
    · exact C13.out.en
    · exact C23.out.en
    · exact C3.out.en) (by
    intro i c w4 hi hz hb
    rcases i with _ | _ | _ | i
    · cases hi; exact C13.out.run trivial w4 (up2 hb4 hb)
    · cases hi
      have h0 : E1 = 0 := hz 0 (unlC k1 k2 E1) rfl (by omega)
      have hq := reach_of0 (HE1.out.symm.trans h0)
      exact C23.out.run ⟨by have := HB.out.2.2.2.2.1.l1; omega, by have := HB.out.2.2.2.2.1.hn; have := HB.out; omega⟩ w4 (up2 hb4 hb)
    · cases hi
      have h0 : E1 = 0 := hz 0 (unlC k1 k2 E1) rfl (by omega)
      have hq := reach_of0 (HE1.out.symm.trans h0)
      have hl := HLR.out (reach_iff.2 hq)
      exact C3.out.run ⟨by omega, by have := HB.out.2.2.2.2.1.hn; have := HB.out.2.2.2.2.1.l1; omega⟩ w4 (up2 hb4 hb)
    · simp at hi)
  have B4 := Lib.hid (up2 B3.out hb4)
  have hfe : firstE [unlC k1 k2 E1, unlC k3 k4 0, fitC k5 k6 k7 E3] = E := by
    rw [firstE3, HPE.out]; rfl
  rw [hfe] at HF
  have HF := Lib.hid HF
  clear hR3 hb4 C13 C23 C3 B3 hfe
  refine HF.out.mono ?_
  rintro e w5 ⟨rfl, hb5⟩
  have B5 := Lib.hid (up2 B4.out hb5)
  clear hb5 B4 HF
  by_cases hE : E = 0
  · have h1 : E1 = 0 := by
      have h2 := HPE.out
      rw [hE] at h2
      split at h2
      · assumption
      · exact h2.symm
    have hq := reach_of0 (HE1.out.symm.trans h1)
    have h3 : E3 = 0 := by have h2 := HPE.out; rw [if_pos h1, hE] at h2; exact h2.symm
    have hft := fits0 (HE3.out.symm.trans h3)
    rw [HLR.out (reach_iff.2 hq)] at hft
    have hsn := HB.out.2.2.2.2.1
    have g1 := hsn.l1
    have g4 := hsn.hn
    have H5 := Lib.hid (H.out.up B5.out)
    obtain ⟨n, hn⟩ : ∃ n : Nat, x = n := ⟨x.toNat, by omega⟩
    obtain ⟨m, hm⟩ : ∃ m : Nat, y = m := ⟨y.toNat, by omega⟩
    have HX := Lib.hid (ptake (HT.out.up B5.out) (HR.out.up B5.out) H5.out (by have := HB.out.1; omega) n m (by omega) (by omega) (by omega))
    rw [← hn, ← hm] at HX
    have hlen := takeT_len (T := T) (x := n) (y := m) (by omega) (by omega) (by omega)
    have HE0 := Lib.hid hE
    have HNN := Lib.hid (⟨show x.toNat = n by omega, show y.toNat = m by omega, hlen, show n ≤ T.cs.length + 1 by omega, show n ≤ m by omega, show m ≤ T.cs.length + 1 by omega, hft, hn, show 1 ≤ n by omega, hm⟩ : _ ∧ _ ∧ _ ∧ _ ∧ _ ∧ _ ∧ _ ∧ _ ∧ _ ∧ _)
    clear hq hft hsn g1 g4 h1 h3 hn hm hlen
    rw [hE]
    go_wp2_with fail
    refine HX.out.mono ?_
    rintro e w6 ⟨rfl, ho6, hp6⟩
    have P6 := Lib.hid hp6.bound
    have O6 := Lib.hid ho6
    have HY := Lib.hid (pput ((HT.out.up B5.out).only ho6 (fun k hk => HB.out.2.2.2.2.2 k hk)) ((HR.out.up B5.out).only ho6 (fun k hk => HB.out.2.2.2.2.2 k hk)) P6.out (by have := HB.out; have := HNN.out; omega) n (by have := HNN.out; omega) (by have := HNN.out; omega) s HB.out.2.1 HNN.out.2.2.2.2.2.2.1.1 (by have := HNN.out; omega) false)
    rw [← HNN.out.2.2.2.2.2.2.2.1] at HY
    clear ho6 hp6 HX
    go_wp2_with fail
    refine HY.out.mono ?_
    rintro e w7 ⟨rfl, ho7, hp7⟩
    have z5 := O6.out.size
    have hsub : ∀ k, grow (fun k => grow F w5.heap.size k ∧ k < w6.heap.size) w6.heap.size k → grow F w5.heap.size k := fun k hk => hk.elim (fun e => e.1) (fun e => .inr (by omega))
    have HP7 := Lib.hid (PB.then (T1 := T) (B1 := B) B5.out ⟨O6.out.then ho7 (fun k hk hlt => hk.1.elim id (fun e => by omega)), hp7.mono hsub (Nat.le_refl _)⟩)
    clear ho7 hp7 hsub
    go_wp2_with fail
    go_ret
    refine ⟨by rw [HE0.out]; rfl, HP7.out.1, ?_⟩
    rw [HT2.out, if_pos HE0.out, HNN.out.1, HNN.out.2.1]
    exact HP7.out.2.mono (fun k hk => hk) (by have := HNN.out; omega)
  · have e1 : ((E : Int) == 0) = false := by simpa using hE
    have e2 : (E = 0) = False := eq_false hE
    have HEN := Lib.hid hE
    clear hE
    go_wp2_with fail
    go_ret
    refine ⟨rfl, ?_⟩
    rw [HT2.out, if_neg HEN.out]
    exact H.out.stay B5.out (T.cs.length + 8)
set_option maxRecDepth 100000 in
set_option maxHeartbeats 4000000 in
theorem bReplace2 (hT : Tabs N w) (hR : Rules N w) (h : PB N w b F T B) (hF : edF N F) (hB : B ≤ 700000) (hro : T.S.ro = false) (x y : Int) (hxy : ¬ x = y) (s : ByteArray) (hs : s.size ≤ 262144) :
    Calls Tryz.prog 35 #[pAt b, .int .i64 x, .int .i64 y, .string s] w fun r w' => r = .returned (.int .i64 (repE T x y s)) ∧ Only F w w' ∧ PB N w' b (grow F w.heap.size) (if repE T x y s = 0 then repT T x.toNat y.toNat (chrs s) else T) (B + T.cs.length + 8) := by
  have hle := h.le
  have hsn := h.sane
  have hgp := gapB_free (S := T.S) hro x
  have hpb : partB T.S = true := by unfold partB; rw [hro]; simp
  have hsl := chrs_len s
  have HB := Lib.hid (⟨hB, hs, hle, hsl, hsn, hF⟩ : _ ∧ _ ∧ _ ∧ _ ∧ _ ∧ _)
  have HT := Lib.hid hT
  have HR := Lib.hid hR
  have H := Lib.hid h
  have HN := Lib.hid (bnoneB h.blk)
  have HG := Lib.hid (⟨hgp, hpb⟩ : _ ∧ _)
  obtain ⟨ls, hls⟩ : ∃ ls : Int, IntKind.i64.wrap (y - x) = ls := ⟨_, rfl⟩
  obtain ⟨E1, hE1⟩ : ∃ E1 : Int, E1 = if reachB T.S x y = true then 0 else 3 := ⟨_, rfl⟩
  obtain ⟨E3, hE3⟩ : ∃ E3 : Int, E3 = fitsE s T.cs.length ls := ⟨_, rfl⟩
  have hlr : reachB T.S x y = true → ls = y - x := fun hq => by
    have h1 := reach_iff.1 hq
    rw [← hls]
    exact IntWalk.i64_in _ (by have := hsn.hn; omega)
  have hPE : repE T x y s = if E1 = 0 then E3 else E1 := by
    unfold repE; rw [hE1, hE3]
    by_cases hq : reachB T.S x y = true
    · rw [if_pos hq, if_pos hq, if_pos rfl, hlr hq]
    · rw [if_neg hq, if_neg hq, if_neg (by omega)]
  obtain ⟨E, hE⟩ : ∃ E : Int, E = repE T x y s := ⟨_, rfl⟩
  rw [← hE] at hPE ⊢
  obtain ⟨T2, hT2⟩ : ∃ T2 : Tx, T2 = (if E = 0 then repT T x.toNat y.toNat (chrs s) else T) := ⟨_, rfl⟩
  rw [← hT2]
  have HT2 := Lib.hid hT2
  clear hT2
  have HE1 := Lib.hid hE1
  have HE3 := Lib.hid hE3
  have HPE := Lib.hid hPE
  have HE := Lib.hid hE
  have HLR := Lib.hid hlr
  have dx : ((x : Int) == y) = false := by simpa using hxy
  have nx : (x = y) = False := eq_false hxy
  have HXY := Lib.hid hxy
  clear hT hR h hB hs hle hsl hsn hF hgp hpb hro hE1 hE3 hPE hE hlr hxy
  go_enter Tryz.func35, Tryz.ntmps35
  go_wp2_with fail
  refine HN.out.mono ?_
  rintro e w0 ⟨rfl, rfl⟩
  go_wp2_with fail
  refine (partOpen_ok H.out.blk H.out.prs x y).mono ?_
  rintro e w2 ⟨k3, k4, rfl, hb2, hc2⟩
  rw [HG.out.2] at hc2 ⊢
  change ChkAt w2 _ (unlC k3 k4 0) at hc2
  have C2 := Lib.hid hc2
  have B2 := Lib.hid hb2
  clear hc2 hb2
  go_wp2_with fail
  refine (within_ok (H.out.blk.up B2.out) x y).mono ?_
  rintro e w6 ⟨k1, k2, rfl, hb6, hc1⟩
  rw [← HE1.out] at hc1 ⊢
  have C1 := Lib.hid hc1
  have B6 := Lib.hid (up2 B2.out hb6)
  have C22 := Lib.hid (C2.out.up hb6)
  clear hc1 hb6 C2 B2 HN
  go_wp2_with fail
  refine (fits_ok (n := T.cs.length) (HT.out.up B6.out) (H.out.blk.up B6.out) s (by have := HB.out; omega) ls (by have := HB.out; omega) (H.out.up B6.out).size).mono ?_
  rintro e w3 ⟨k5, k6, k7, rfl, hb3, hc3⟩
  rw [← HE3.out] at hc3 ⊢
  have C3 := Lib.hid hc3
  have B3 := Lib.hid (up2 B6.out hb3)
  have C13 := Lib.hid (C1.out.up hb3)
  have C23 := Lib.hid (C22.out.up hb3)
  clear hc3 hb3 C1 C22 B6
  go_wp2_with fail
  have hb4 := below1 w3 (.cells #[(unlC k1 k2 E1).val, (unlC k3 k4 0).val, (fitC k5 k6 k7 E3).val] 48)
  have hR3 := RSl.arr (enc := encK) (zs := [unlC k1 k2 E1, unlC k3 k4 0, fitC k5 k6 k7 E3]) (MapKept.heap_alloc w3 (.cells #[(unlC k1 k2 E1).val, (unlC k3 k4 0).val, (fitC k5 k6 k7 E3).val] 48)).1 rfl
  have HF := first_any hR3 3 (by simp) (by
    intro c hc
    simp only [List.mem_cons, List.not_mem_nil, or_false] at hc
    rcases hc with rfl | rfl | rfl
    · exact C13.out.en
    · exact C23.out.en
    · exact C3.out.en) (by
    intro i c w4 hi hz hb
    rcases i with _ | _ | _ | i
    · cases hi; exact C13.out.run trivial w4 (up2 hb4 hb)
    · cases hi
      have h0 : E1 = 0 := hz 0 (unlC k1 k2 E1) rfl (by omega)
      have hq := reach_of0 (HE1.out.symm.trans h0)
      exact C23.out.run ⟨by have := HB.out.2.2.2.2.1.l1; omega, by omega, by have := HB.out.2.2.2.2.1.hn; have := HB.out; omega⟩ w4 (up2 hb4 hb)
    · cases hi
      have h0 : E1 = 0 := hz 0 (unlC k1 k2 E1) rfl (by omega)
      have hq := reach_of0 (HE1.out.symm.trans h0)
      have hl := HLR.out (reach_iff.2 hq)
      exact C3.out.run ⟨by omega, by have := HB.out.2.2.2.2.1.hn; have := HB.out.2.2.2.2.1.l1; omega⟩ w4 (up2 hb4 hb)
    · simp at hi)
  have B4 := Lib.hid (up2 B3.out hb4)
  have hfe : firstE [unlC k1 k2 E1, unlC k3 k4 0, fitC k5 k6 k7 E3] = E := by
    rw [firstE3, HPE.out]; rfl
  rw [hfe] at HF
  have HF := Lib.hid HF
  clear hR3 hb4 C13 C23 C3 B3 hfe
  refine HF.out.mono ?_
  rintro e w5 ⟨rfl, hb5⟩
  have B5 := Lib.hid (up2 B4.out hb5)
  clear hb5 B4 HF
  by_cases hE : E = 0
  · have h1 : E1 = 0 := by
      have h2 := HPE.out
      rw [hE] at h2
      split at h2
      · assumption
      · exact h2.symm
    have hq := reach_of0 (HE1.out.symm.trans h1)
    have h3 : E3 = 0 := by have h2 := HPE.out; rw [if_pos h1, hE] at h2; exact h2.symm
    have hft := fits0 (HE3.out.symm.trans h3)
    rw [HLR.out (reach_iff.2 hq)] at hft
    have hsn := HB.out.2.2.2.2.1
    have g1 := hsn.l1
    have g4 := hsn.hn
    have H5 := Lib.hid (H.out.up B5.out)
    obtain ⟨n, hn⟩ : ∃ n : Nat, x = n := ⟨x.toNat, by omega⟩
    obtain ⟨m, hm⟩ : ∃ m : Nat, y = m := ⟨y.toNat, by omega⟩
    have HX := Lib.hid (ptake (HT.out.up B5.out) (HR.out.up B5.out) H5.out (by have := HB.out.1; omega) n m (by omega) (by omega) (by omega))
    rw [← hn, ← hm] at HX
    have hlen := takeT_len (T := T) (x := n) (y := m) (by omega) (by omega) (by omega)
    have HE0 := Lib.hid hE
    have HNN := Lib.hid (⟨show x.toNat = n by omega, show y.toNat = m by omega, hlen, show n ≤ T.cs.length + 1 by omega, show n ≤ m by omega, show m ≤ T.cs.length + 1 by omega, hft, hn, show 1 ≤ n by omega, hm⟩ : _ ∧ _ ∧ _ ∧ _ ∧ _ ∧ _ ∧ _ ∧ _ ∧ _ ∧ _)
    clear hq hft hsn g1 g4 h1 h3 hn hm hlen
    rw [hE]
    go_wp2_with fail
    refine HX.out.mono ?_
    rintro e w6 ⟨rfl, ho6, hp6⟩
    have P6 := Lib.hid hp6.bound
    have O6 := Lib.hid ho6
    have HY := Lib.hid (pput ((HT.out.up B5.out).only ho6 (fun k hk => HB.out.2.2.2.2.2 k hk)) ((HR.out.up B5.out).only ho6 (fun k hk => HB.out.2.2.2.2.2 k hk)) P6.out (by have := HB.out; have := HNN.out; omega) n (by have := HNN.out; omega) (by have := HNN.out; omega) s HB.out.2.1 HNN.out.2.2.2.2.2.2.1.1 (by have := HNN.out; omega) false)
    rw [← HNN.out.2.2.2.2.2.2.2.1] at HY
    clear ho6 hp6 HX
    go_wp2_with fail
    refine HY.out.mono ?_
    rintro e w7 ⟨rfl, ho7, hp7⟩
    have z5 := O6.out.size
    have hsub : ∀ k, grow (fun k => grow F w5.heap.size k ∧ k < w6.heap.size) w6.heap.size k → grow F w5.heap.size k := fun k hk => hk.elim (fun e => e.1) (fun e => .inr (by omega))
    have HP7 := Lib.hid (PB.then (T1 := T) (B1 := B) B5.out ⟨O6.out.then ho7 (fun k hk hlt => hk.1.elim id (fun e => by omega)), hp7.mono hsub (Nat.le_refl _)⟩)
    clear ho7 hp7 hsub
    go_wp2_with fail
    go_ret
    refine ⟨by rw [HE0.out]; rfl, HP7.out.1, ?_⟩
    rw [HT2.out, if_pos HE0.out, HNN.out.1, HNN.out.2.1]
    exact HP7.out.2.mono (fun k hk => hk) (by have := HNN.out; omega)
  · have e1 : ((E : Int) == 0) = false := by simpa using hE
    have e2 : (E = 0) = False := eq_false hE
    have HEN := Lib.hid hE
    clear hE
    go_wp2_with fail
    go_ret
    refine ⟨rfl, ?_⟩
    rw [HT2.out, if_neg HEN.out]
    exact H.out.stay B5.out (T.cs.length + 8)
theorem bReplace (hT : Tabs N w) (hR : Rules N w) (h : PB N w b F T B) (hF : edF N F) (hB : B ≤ 700000) (hro : T.S.ro = false) (x y : Int) (s : ByteArray) (hs : s.size ≤ 262144) :
    Calls Tryz.prog 35 #[pAt b, .int .i64 x, .int .i64 y, .string s] w fun r w' => r = .returned (.int .i64 (repE T x y s)) ∧ Only F w w' ∧ PB N w' b (grow F w.heap.size) (if repE T x y s = 0 then repT T x.toNat y.toNat (chrs s) else T) (B + T.cs.length + 8) := by
  by_cases hxy : x = y
  · exact bReplace1 hT hR h hF hB hro x y hxy s hs
  · exact bReplace2 hT hR h hF hB hro x y hxy s hs
end
end Go.Proofs.YtobnmpgfkgoapaaGreatDoor
/- copyistkit.Pick. -/
namespace Go.Proofs.YtobnmpgfkgoapaaGreatDoor
open Go.RowKit
set_option linter.unusedVariables false
set_option linter.unusedSimpArgs false
/-- What copyistkit.Pick hands back. -/
def pickI (n most : Int) : Int := if most ≤ 0 then 0 else n % most
theorem pick_pos (n most : Int) (h : 0 < most) : 0 ≤ pickI n most ∧ pickI n most < most := by
  unfold pickI; rw [if_neg (by omega)]; exact ⟨Int.emod_nonneg _ (by omega), Int.emod_lt_of_pos _ h⟩

set_option maxHeartbeats 400000 in
theorem pick_any (n most : Int) (w : World) (h1 : 0 < most) (h2 : most ≤ 1000000) :
    Calls Tryz.prog 8 #[.int .i64 n, .int .i64 most] w fun e w' => e = .returned (.int .i64 (pickI n most)) ∧ w = w' := by
  have e1 : pickI n most = if n.tmod most < 0 then n.tmod most + most else n.tmod most := by
    unfold pickI
    rw [if_neg (by omega), Int.emod_eq_tmod]
    have hn : (most.natAbs : Int) = most := by omega
    by_cases h0 : 0 ≤ n
    · have := Int.tmod_nonneg most h0
      rw [if_pos (.inl h0), if_neg (by omega)]; omega
    · have hle : n.tmod most ≤ 0 := by
        have := Int.tmod_nonneg most (a := -n) (by omega)
        rw [Int.neg_tmod] at this; omega
      by_cases hd : most ∣ n
      · have := Int.tmod_eq_zero_of_dvd hd
        rw [if_pos (.inr hd), this]; simp
      · have hne : n.tmod most ≠ 0 := fun h => hd (Int.dvd_of_tmod_eq_zero h)
        rw [if_neg (by simp [hd]; omega), if_pos (by omega), hn]
  have b1 : -most < n.tmod most := by have := Int.lt_tmod_of_pos n h1; omega
  have b2 : n.tmod most < most := Int.tmod_lt_of_pos n h1
  have H1 := Lib.hid e1
  clear e1
  have hz : ¬ most = 0 := by omega
  by_cases hneg : n.tmod most < 0
  all_goals
    go_enter Tryz.func8, Tryz.ntmps8
    go_wp2
    go_ret
    exact ⟨ret_int (by rw [H1.out]; first | rw [if_pos (by omega)] | rw [if_neg (by omega)]), rfl⟩
end Go.Proofs.YtobnmpgfkgoapaaGreatDoor
/- copyistlaw20: acts in memory; light. -/
namespace Go.Proofs.YtobnmpgfkgoapaaGreatDoor
open Go.RowKit Go.Lib
set_option linter.unusedVariables false
set_option linter.unusedSimpArgs false
/-- A piece of properties, as it came in. -/
structure SpE where
  a : Int
  b : Int
  A : Option Addr
  n : Nat
  c : Nat
abbrev encSpn (e : SpE) : List Value := [.int .i64 e.a, .int .i64 e.b, .slice e.A e.n e.c]
theorem eltSpn : Elt encSpn 32 52 3 40 (.agg #[.int .i64 0, .int .i64 0, .slice none 0 0]) := ⟨Tryz.underlying32, by kernel_rfl, rfl, by omega, fun _ => rfl, fun x u hu => by simp at hu; rcases hu with rfl | rfl | rfl <;> rfl⟩
/-- An act. -/
structure AcE where
  k : Int
  a : Int
  b : Int
  id : Int
  nm : Int
  tx : ByteArray
  on : Bool
  also : Bool
  vk : Int
  vn : Int
  sA : Option Addr
  sp : List SpE
  sc : Nat
abbrev encA (e : AcE) : List Value := [.int .i64 e.k, .int .i64 e.a, .int .i64 e.b, .int .i64 e.id, .int .i64 e.nm, .string e.tx, .bool e.on, .bool e.also, .int .i64 e.vk, .int .i64 e.vn, .slice e.sA e.sp.length e.sc]
abbrev actV (e : AcE) : Value := .agg (encA e).toArray
theorem eltA : Elt encA 22 34 11 104 (.agg #[.int .i64 0, .int .i64 0, .int .i64 0, .int .i64 0, .int .i64 0, .string ⟨#[]⟩, .bool false, .bool false, .int .i64 0, .int .i64 0, .slice none 0 0]) :=
  ⟨Tryz.underlying22, by kernel_rfl, rfl, by omega, fun _ => rfl, fun x u hu => by simp at hu; rcases hu with rfl | rfl | rfl | rfl | rfl | rfl | rfl | rfl | rfl | rfl | rfl <;> rfl⟩
/-- Acts in memory: the slice, and what each holds. -/
structure ActsAt (w : World) (A : Option Addr) (L : List AcE) : Prop where
  l : RSl encA w A L
  s : ∀ e ∈ L, RSl encSpn w e.sA e.sp ∧ e.sp.length ≤ 9223372036854775807
  z : ∀ e ∈ L, e.tx.size ≤ 9223372036854775807
theorem ActsAt.up {w w' : World} {A : Option Addr} {L : List AcE} (h : ActsAt w A L) (hb : Below w.heap.size w w') : ActsAt w' A L := ⟨h.l.up hb, fun e he => ⟨(h.s e he).1.up hb, (h.s e he).2⟩, h.z⟩
/-- What light answers. -/
def LightP (L : List AcE) (w : World) (r : Ending) (w' : World) : Prop := ∃ bl, r = .returned (.bool bl) ∧ w = w' ∧ (bl = true → L.length ≤ 40 ∧ ∀ e ∈ L, e.tx.size ≤ 60)
section
variable {w w' : World} {A : Option Addr} {L : List AcE}
set_option maxRecDepth 100000 in
set_option maxHeartbeats 4000000 in
theorem light_ok (h : ActsAt w A L) (c : Nat) (hl : L.length ≤ 9223372036854775807) : Calls Tryz.prog 5 #[.slice A L.length c] w (LightP L w) := by
  have H := Lib.hid h
  go_enter Tryz.func5, Tryz.ntmps5
  go_wp2_with fail
  go_loopw [3, 4] (fun va vb wr => ∃ i : Nat, i ≤ L.length ∧ va = .int .i64 i ∧ w = wr ∧ ∀ (j : Nat) (e : AcE), j < i → L[j]? = some e → e.tx.size ≤ 60) (fun va _ _ => int2 va (.int .i64 L.length))
  case atStart => exact ⟨0, by omega, rfl, rfl, fun j e hj => by omega⟩
  case round =>
    obtain ⟨i, hi, rfl, rfl, hz⟩ := hrel
    have HZ := Lib.hid hz
    clear hz
    by_cases hlt : i < L.length
    · have d1 : decide ((i : Int) < L.length) = true := decide_eq_true (by omega)
      have d2 : ((i : Int) < L.length) = True := eq_true (by omega)
      have hlt2 : (i : Int) < L.length := by omega
      obtain ⟨e, hx⟩ : ∃ e, L[i]? = some e := ⟨_, List.getElem?_eq_getElem hlt⟩
      obtain ⟨g, o, rfl, hg, hat⟩ := h.l.at_ eltA hx
      obtain ⟨hsp, hspl⟩ := h.s e (List.mem_of_getElem? hx)
      have htz := h.z e (List.mem_of_getElem? hx)
      have x5 := hat 5 _ rfl
      have x10 := hat 10 _ rfl
      have s1 : IntKind.i64.wrap ((i : Int) + 1) = ((i + 1 : Nat) : Int) := by rw [IntWalk.i64_in _ (by omega)]; omega
      have HX := Lib.hid hx
      have HSP := Lib.hid hsp
      obtain ⟨ak, aa, ab, aid, anm, atx, aon, aal, avk, avn, asA, asp, asc⟩ := e
      simp only at x5 x10 hspl htz
      rw [← Nat.add_assoc] at x5 x10
      have HSP : Hid (RSl encSpn w asA asp) := HSP
      clear hat hx hsp
      by_cases h60 : atx.size ≤ 60
      · have d3 : decide ((60 : Int) < (atx.size : Int)) = false := decide_eq_false (by omega)
        have d4 : ((60 : Int) < (atx.size : Int)) = False := eq_false (by omega)
        by_cases h6 : asp.length ≤ 6
        · have d5 : decide ((6 : Int) < (asp.length : Int)) = false := decide_eq_false (by omega)
          have d6 : ((6 : Int) < (asp.length : Int)) = False := eq_false (by omega)
          go_wp2_with fail
          go_loopw [4] (fun vb wr => ∃ k : Nat, k ≤ asp.length ∧ vb = .int .i64 k ∧ w = wr) (fun vb _ => int2 vb (.int .i64 asp.length))
          case atStart => exact ⟨0, by omega, rfl, rfl⟩
          case round =>
            obtain ⟨k, hk, rfl, rfl⟩ := hrel
            by_cases hkl : k < asp.length
            · have e1 : decide ((k : Int) < asp.length) = true := decide_eq_true (by omega)
              have e2 : ((k : Int) < asp.length) = True := eq_true (by omega)
              have e3 : (k : Int) < asp.length := by omega
              obtain ⟨q, hq⟩ : ∃ q, asp[k]? = some q := ⟨_, List.getElem?_eq_getElem hkl⟩
              obtain ⟨g2, o2, rfl, hg2, hat2⟩ := HSP.out.at_ eltSpn hq
              have y2 := hat2 2 _ rfl
              obtain ⟨qa, qb, qA, qn, qc⟩ := q
              simp only at y2
              rw [← Nat.add_assoc] at y2
              have s2 : IntKind.i64.wrap ((k : Int) + 1) = ((k + 1 : Nat) : Int) := by rw [IntWalk.i64_in _ (by omega)]; omega
              clear hat2 hq
              by_cases hq6 : qn ≤ 6
              · have e4 : decide ((6 : Int) < (qn : Int)) = false := decide_eq_false (by omega)
                have e5 : ((6 : Int) < (qn : Int)) = False := eq_false (by omega)
                go_wp2_with fail
                go_roundw
                case rel => exact ⟨k + 1, by omega, by first | rfl | go_num, by first | rfl | trivial⟩
                case measure => simp [int2]; omega
              · have e4 : decide ((6 : Int) < (qn : Int)) = true := decide_eq_true (by omega)
                have e5 : ((6 : Int) < (qn : Int)) = True := eq_true (by omega)
                go_wp2_with fail
                go_ret
                exact ⟨false, rfl, rfl, fun h => by cases h⟩
            · have e1 : decide ((k : Int) < asp.length) = false := decide_eq_false (by omega)
              have e2 : ((k : Int) < asp.length) = False := eq_false (by omega)
              go_wp2_with fail
              go_roundw
              case rel =>
                refine ⟨i + 1, by omega, by first | rfl | go_num, by first | rfl | trivial, fun j e hj hx => ?_⟩
                by_cases hji : j = i
                · subst hji
                  rw [HX.out] at hx; cases hx; exact h60
                · exact HZ.out j e (by omega) hx
              case measure => simp [int2]; omega
        · have d5 : decide ((6 : Int) < (asp.length : Int)) = true := decide_eq_true (by omega)
          have d6 : ((6 : Int) < (asp.length : Int)) = True := eq_true (by omega)
          go_wp2_with fail
          go_ret
          exact ⟨false, rfl, rfl, fun h => by cases h⟩
      · have d3 : decide ((60 : Int) < (atx.size : Int)) = true := decide_eq_true (by omega)
        have d4 : ((60 : Int) < (atx.size : Int)) = True := eq_true (by omega)
        go_wp2_with fail
        go_ret
        exact ⟨false, rfl, rfl, fun h => by cases h⟩
    · have d1 : decide ((i : Int) < L.length) = false := decide_eq_false (by omega)
      have d2 : ((i : Int) < L.length) = False := eq_false (by omega)
      obtain rfl : i = L.length := by omega
      go_wp2_with fail
      go_ret
      refine ⟨decide ((L.length : Int) ≤ 40), by first | rfl | simp, rfl, fun h => ⟨by simp at h; omega, fun e he => ?_⟩⟩
      obtain ⟨j, hj⟩ := List.getElem?_of_mem he
      exact HZ.out j e (List.getElem?_eq_some_iff.1 hj).1 hj
end
end Go.Proofs.YtobnmpgfkgoapaaGreatDoor
/- copyistlaw20: do, at the acts of the kinds 0 to 8. -/
namespace Go.Proofs.YtobnmpgfkgoapaaGreatDoor
open Go.RowKit Go.Lib
set_option linter.unusedVariables false
set_option linter.unusedSimpArgs false
section
variable {N : Nat} {w w' : World} {b : Nat} {F : Nat → Prop} {T : Tx} {B : Nat} {e : AcE}
/-- What do makes of a buffer. -/
def DoP (N : Nat) (w : World) (b : Nat) (F : Nat → Prop) (E : Int) (T2 : Tx) (B2 : Nat) (r : Ending) (w' : World) : Prop := r = .returned (.tuple #[.int .i64 0, .int .i64 E]) ∧ Only F w w' ∧ PB N w' b (grow F w.heap.size) T2 B2
set_option maxRecDepth 100000 in
set_option maxHeartbeats 2000000 in
theorem do_ins0 (hT : Tabs N w) (hR : Rules N w) (h : PB N w b F T B) (hF : edF N F) (hB : B ≤ 600000) (hro : T.S.ro = false) (hs : e.tx.size ≤ 60) (hk : pickI e.k 32 = 0) :
    Calls Tryz.prog 13 #[pAt b, actV e] w (DoP N w b F (fitsE e.tx T.cs.length 0) ((if fitsE e.tx T.cs.length 0 = 0 then insT T (chrs e.tx) false else T)) (B + 4)) := by
  obtain ⟨ak, aa, ab, aid, anm, atx, aon, aal, avk, avn, asA, asp, asc⟩ := e
  simp only at hs hk ⊢
  have hpk := fun w => pick_any ak 32 w (by omega) (by omega)
  rw [hk] at hpk
  clear hk
  have hb := below1 w (.cells (encA ⟨ak, aa, ab, aid, anm, atx, aon, aal, avk, avn, asA, asp, asc⟩).toArray 34)
  have hk := Blk.made w 34 (encA ⟨ak, aa, ab, aid, anm, atx, aon, aal, avk, avn, asA, asp, asc⟩).toArray
  have HM := Lib.hid (bInsert (hT.up hb) (hR.up hb) (h.up hb) (by omega) hro atx (by omega))
  obtain ⟨E, hE⟩ : ∃ E : Int, E = fitsE atx T.cs.length 0 := ⟨_, rfl⟩
  obtain ⟨T2, hT2⟩ : ∃ T2 : Tx, T2 = (if fitsE atx T.cs.length 0 = 0 then insT T (chrs atx) false else T) := ⟨_, rfl⟩
  rw [← hT2] at HM ⊢
  rw [← hE] at HM ⊢
  have x0 : _ = some (Value.int .i64 ak) := hk.cell (j := 0) rfl
  have x5 : _ = some (Value.string atx) := hk.cell (j := 5) rfl
  have HB := Lib.hid hb
  have HPK := Lib.hid hpk
  clear hT hR h hF hB hro hs hb hk hE hT2 hpk
  go_enter Tryz.func13, Tryz.ntmps13
  go_wp2_with fail
  refine (HPK.out _).mono ?_
  rintro r w1 ⟨rfl, rfl⟩
  go_wp2_with fail
  refine HM.out.mono ?_
  rintro r w2 ⟨rfl, h1⟩
  have H1 := Lib.hid h1
  clear h1
  go_wp2_with fail
  go_ret2
  exact ⟨rfl, PB.then (T1 := T) (B1 := B) HB.out H1.out⟩
set_option maxRecDepth 100000 in
set_option maxHeartbeats 2000000 in
theorem do_ins1 (hT : Tabs N w) (hR : Rules N w) (h : PB N w b F T B) (hF : edF N F) (hB : B ≤ 600000) (hro : T.S.ro = false) (hs : e.tx.size ≤ 60) (hk : pickI e.k 32 = 1) :
    Calls Tryz.prog 13 #[pAt b, actV e] w (DoP N w b F (fitsE e.tx T.cs.length 0) ((if fitsE e.tx T.cs.length 0 = 0 then insT T (chrs e.tx) false else T)) (B + 4)) := by
  obtain ⟨ak, aa, ab, aid, anm, atx, aon, aal, avk, avn, asA, asp, asc⟩ := e
  simp only at hs hk ⊢
  have hpk := fun w => pick_any ak 32 w (by omega) (by omega)
  rw [hk] at hpk
  clear hk
  have hb := below1 w (.cells (encA ⟨ak, aa, ab, aid, anm, atx, aon, aal, avk, avn, asA, asp, asc⟩).toArray 34)
  have hk := Blk.made w 34 (encA ⟨ak, aa, ab, aid, anm, atx, aon, aal, avk, avn, asA, asp, asc⟩).toArray
  have HM := Lib.hid (bInsert (hT.up hb) (hR.up hb) (h.up hb) (by omega) hro atx (by omega))
  obtain ⟨E, hE⟩ : ∃ E : Int, E = fitsE atx T.cs.length 0 := ⟨_, rfl⟩
  obtain ⟨T2, hT2⟩ : ∃ T2 : Tx, T2 = (if fitsE atx T.cs.length 0 = 0 then insT T (chrs atx) false else T) := ⟨_, rfl⟩
  rw [← hT2] at HM ⊢
  rw [← hE] at HM ⊢
  have x0 : _ = some (Value.int .i64 ak) := hk.cell (j := 0) rfl
  have x5 : _ = some (Value.string atx) := hk.cell (j := 5) rfl
  have HB := Lib.hid hb
  have HPK := Lib.hid hpk
  clear hT hR h hF hB hro hs hb hk hE hT2 hpk
  go_enter Tryz.func13, Tryz.ntmps13
  go_wp2_with fail
  refine (HPK.out _).mono ?_
  rintro r w1 ⟨rfl, rfl⟩
  go_wp2_with fail
  refine HM.out.mono ?_
  rintro r w2 ⟨rfl, h1⟩
  have H1 := Lib.hid h1
  clear h1
  go_wp2_with fail
  go_ret2
  exact ⟨rfl, PB.then (T1 := T) (B1 := B) HB.out H1.out⟩
set_option maxRecDepth 100000 in
set_option maxHeartbeats 2000000 in
theorem do_ins2 (hT : Tabs N w) (hR : Rules N w) (h : PB N w b F T B) (hF : edF N F) (hB : B ≤ 600000) (hro : T.S.ro = false) (hs : e.tx.size ≤ 60) (hk : pickI e.k 32 = 2) :
    Calls Tryz.prog 13 #[pAt b, actV e] w (DoP N w b F (fitsE e.tx T.cs.length 0) ((if fitsE e.tx T.cs.length 0 = 0 then insT T (chrs e.tx) true else T)) (B + 4)) := by
  obtain ⟨ak, aa, ab, aid, anm, atx, aon, aal, avk, avn, asA, asp, asc⟩ := e
  simp only at hs hk ⊢
  have hpk := fun w => pick_any ak 32 w (by omega) (by omega)
  rw [hk] at hpk
  clear hk
  have hb := below1 w (.cells (encA ⟨ak, aa, ab, aid, anm, atx, aon, aal, avk, avn, asA, asp, asc⟩).toArray 34)
  have hk := Blk.made w 34 (encA ⟨ak, aa, ab, aid, anm, atx, aon, aal, avk, avn, asA, asp, asc⟩).toArray
  have HM := Lib.hid (bInsertAhead (hT.up hb) (hR.up hb) (h.up hb) (by omega) hro atx (by omega))
  obtain ⟨E, hE⟩ : ∃ E : Int, E = fitsE atx T.cs.length 0 := ⟨_, rfl⟩
  obtain ⟨T2, hT2⟩ : ∃ T2 : Tx, T2 = (if fitsE atx T.cs.length 0 = 0 then insT T (chrs atx) true else T) := ⟨_, rfl⟩
  rw [← hT2] at HM ⊢
  rw [← hE] at HM ⊢
  have x0 : _ = some (Value.int .i64 ak) := hk.cell (j := 0) rfl
  have x5 : _ = some (Value.string atx) := hk.cell (j := 5) rfl
  have HB := Lib.hid hb
  have HPK := Lib.hid hpk
  clear hT hR h hF hB hro hs hb hk hE hT2 hpk
  go_enter Tryz.func13, Tryz.ntmps13
  go_wp2_with fail
  refine (HPK.out _).mono ?_
  rintro r w1 ⟨rfl, rfl⟩
  go_wp2_with fail
  refine HM.out.mono ?_
  rintro r w2 ⟨rfl, h1⟩
  have H1 := Lib.hid h1
  clear h1
  go_wp2_with fail
  go_ret2
  exact ⟨rfl, PB.then (T1 := T) (B1 := B) HB.out H1.out⟩
set_option maxRecDepth 100000 in
set_option maxHeartbeats 2000000 in
theorem do_put3 (hT : Tabs N w) (hR : Rules N w) (h : PB N w b F T B) (hF : edF N F) (hB : B ≤ 600000) (hro : T.S.ro = false) (hs : e.tx.size ≤ 60) (hk : pickI e.k 32 = 3) :
    Calls Tryz.prog 13 #[pAt b, actV e] w (DoP N w b F (putEr T e.a e.tx) ((if putEr T e.a e.tx = 0 then putT T (e.a).toNat (chrs e.tx) false else T)) (B + 4)) := by
  obtain ⟨ak, aa, ab, aid, anm, atx, aon, aal, avk, avn, asA, asp, asc⟩ := e
  simp only at hs hk ⊢
  have hpk := fun w => pick_any ak 32 w (by omega) (by omega)
  rw [hk] at hpk
  clear hk
  have hb := below1 w (.cells (encA ⟨ak, aa, ab, aid, anm, atx, aon, aal, avk, avn, asA, asp, asc⟩).toArray 34)
  have hk := Blk.made w 34 (encA ⟨ak, aa, ab, aid, anm, atx, aon, aal, avk, avn, asA, asp, asc⟩).toArray
  have HM := Lib.hid (bPut (hT.up hb) (hR.up hb) (h.up hb) hF (by omega) hro aa atx (by omega))
  obtain ⟨E, hE⟩ : ∃ E : Int, E = putEr T aa atx := ⟨_, rfl⟩
  obtain ⟨T2, hT2⟩ : ∃ T2 : Tx, T2 = (if putEr T aa atx = 0 then putT T (aa).toNat (chrs atx) false else T) := ⟨_, rfl⟩
  rw [← hT2] at HM ⊢
  rw [← hE] at HM ⊢
  have x0 : _ = some (Value.int .i64 ak) := hk.cell (j := 0) rfl
  have x1 : _ = some (Value.int .i64 aa) := hk.cell (j := 1) rfl
  have x5 : _ = some (Value.string atx) := hk.cell (j := 5) rfl
  have HB := Lib.hid hb
  have HPK := Lib.hid hpk
  clear hT hR h hF hB hro hs hb hk hE hT2 hpk
  go_enter Tryz.func13, Tryz.ntmps13
  go_wp2_with fail
  refine (HPK.out _).mono ?_
  rintro r w1 ⟨rfl, rfl⟩
  go_wp2_with fail
  refine HM.out.mono ?_
  rintro r w2 ⟨rfl, h1⟩
  have H1 := Lib.hid h1
  clear h1
  go_wp2_with fail
  go_ret2
  exact ⟨rfl, PB.then (T1 := T) (B1 := B) HB.out H1.out⟩
set_option maxRecDepth 100000 in
set_option maxHeartbeats 2000000 in
theorem do_del4 (hT : Tabs N w) (hR : Rules N w) (h : PB N w b F T B) (hF : edF N F) (hB : B ≤ 600000) (hro : T.S.ro = false) (hs : e.tx.size ≤ 60) (hk : pickI e.k 32 = 4) :
    Calls Tryz.prog 13 #[pAt b, actV e] w (DoP N w b F (delE T e.a e.b) ((if delE T e.a e.b = 0 then takeT T (e.a).toNat (e.b).toNat else T)) (B + T.cs.length + 4)) := by
  obtain ⟨ak, aa, ab, aid, anm, atx, aon, aal, avk, avn, asA, asp, asc⟩ := e
  simp only at hs hk ⊢
  have hpk := fun w => pick_any ak 32 w (by omega) (by omega)
  rw [hk] at hpk
  clear hk
  have hb := below1 w (.cells (encA ⟨ak, aa, ab, aid, anm, atx, aon, aal, avk, avn, asA, asp, asc⟩).toArray 34)
  have hk := Blk.made w 34 (encA ⟨ak, aa, ab, aid, anm, atx, aon, aal, avk, avn, asA, asp, asc⟩).toArray
  have HM := Lib.hid (bDelete (hT.up hb) (hR.up hb) (h.up hb) hF (by omega) hro aa ab)
  obtain ⟨E, hE⟩ : ∃ E : Int, E = delE T aa ab := ⟨_, rfl⟩
  obtain ⟨T2, hT2⟩ : ∃ T2 : Tx, T2 = (if delE T aa ab = 0 then takeT T (aa).toNat (ab).toNat else T) := ⟨_, rfl⟩
  rw [← hT2] at HM ⊢
  rw [← hE] at HM ⊢
  have x0 : _ = some (Value.int .i64 ak) := hk.cell (j := 0) rfl
  have x1 : _ = some (Value.int .i64 aa) := hk.cell (j := 1) rfl
  have x2 : _ = some (Value.int .i64 ab) := hk.cell (j := 2) rfl
  have HB := Lib.hid hb
  have HPK := Lib.hid hpk
  clear hT hR h hF hB hro hs hb hk hE hT2 hpk
  go_enter Tryz.func13, Tryz.ntmps13
  go_wp2_with fail
  refine (HPK.out _).mono ?_
  rintro r w1 ⟨rfl, rfl⟩
  go_wp2_with fail
  refine HM.out.mono ?_
  rintro r w2 ⟨rfl, h1⟩
  have H1 := Lib.hid h1
  clear h1
  go_wp2_with fail
  go_ret2
  exact ⟨rfl, PB.then (T1 := T) (B1 := B) HB.out H1.out⟩
set_option maxRecDepth 100000 in
set_option maxHeartbeats 2000000 in
theorem do_del5 (hT : Tabs N w) (hR : Rules N w) (h : PB N w b F T B) (hF : edF N F) (hB : B ≤ 600000) (hro : T.S.ro = false) (hs : e.tx.size ≤ 60) (hk : pickI e.k 32 = 5) :
    Calls Tryz.prog 13 #[pAt b, actV e] w (DoP N w b F (delE T e.a e.b) ((if delE T e.a e.b = 0 then takeT T (e.a).toNat (e.b).toNat else T)) (B + T.cs.length + 4)) := by
  obtain ⟨ak, aa, ab, aid, anm, atx, aon, aal, avk, avn, asA, asp, asc⟩ := e
  simp only at hs hk ⊢
  have hpk := fun w => pick_any ak 32 w (by omega) (by omega)
  rw [hk] at hpk
  clear hk
  have hb := below1 w (.cells (encA ⟨ak, aa, ab, aid, anm, atx, aon, aal, avk, avn, asA, asp, asc⟩).toArray 34)
  have hk := Blk.made w 34 (encA ⟨ak, aa, ab, aid, anm, atx, aon, aal, avk, avn, asA, asp, asc⟩).toArray
  have HM := Lib.hid (bDelete (hT.up hb) (hR.up hb) (h.up hb) hF (by omega) hro aa ab)
  obtain ⟨E, hE⟩ : ∃ E : Int, E = delE T aa ab := ⟨_, rfl⟩
  obtain ⟨T2, hT2⟩ : ∃ T2 : Tx, T2 = (if delE T aa ab = 0 then takeT T (aa).toNat (ab).toNat else T) := ⟨_, rfl⟩
  rw [← hT2] at HM ⊢
  rw [← hE] at HM ⊢
  have x0 : _ = some (Value.int .i64 ak) := hk.cell (j := 0) rfl
  have x1 : _ = some (Value.int .i64 aa) := hk.cell (j := 1) rfl
  have x2 : _ = some (Value.int .i64 ab) := hk.cell (j := 2) rfl
  have HB := Lib.hid hb
  have HPK := Lib.hid hpk
  clear hT hR h hF hB hro hs hb hk hE hT2 hpk
  go_enter Tryz.func13, Tryz.ntmps13
  go_wp2_with fail
  refine (HPK.out _).mono ?_
  rintro r w1 ⟨rfl, rfl⟩
  go_wp2_with fail
  refine HM.out.mono ?_
  rintro r w2 ⟨rfl, h1⟩
  have H1 := Lib.hid h1
  clear h1
  go_wp2_with fail
  go_ret2
  exact ⟨rfl, PB.then (T1 := T) (B1 := B) HB.out H1.out⟩
set_option maxRecDepth 100000 in
set_option maxHeartbeats 2000000 in
theorem do_rep6 (hT : Tabs N w) (hR : Rules N w) (h : PB N w b F T B) (hF : edF N F) (hB : B ≤ 600000) (hro : T.S.ro = false) (hs : e.tx.size ≤ 60) (hk : pickI e.k 32 = 6) :
    Calls Tryz.prog 13 #[pAt b, actV e] w (DoP N w b F (repE T e.a e.b e.tx) ((if repE T e.a e.b e.tx = 0 then repT T (e.a).toNat (e.b).toNat (chrs e.tx) else T)) (B + T.cs.length + 8)) := by
  obtain ⟨ak, aa, ab, aid, anm, atx, aon, aal, avk, avn, asA, asp, asc⟩ := e
  simp only at hs hk ⊢
  have hpk := fun w => pick_any ak 32 w (by omega) (by omega)
  rw [hk] at hpk
  clear hk
  have hb := below1 w (.cells (encA ⟨ak, aa, ab, aid, anm, atx, aon, aal, avk, avn, asA, asp, asc⟩).toArray 34)
  have hk := Blk.made w 34 (encA ⟨ak, aa, ab, aid, anm, atx, aon, aal, avk, avn, asA, asp, asc⟩).toArray
  have HM := Lib.hid (bReplace (hT.up hb) (hR.up hb) (h.up hb) hF (by omega) hro aa ab atx (by omega))
  obtain ⟨E, hE⟩ : ∃ E : Int, E = repE T aa ab atx := ⟨_, rfl⟩
  obtain ⟨T2, hT2⟩ : ∃ T2 : Tx, T2 = (if repE T aa ab atx = 0 then repT T (aa).toNat (ab).toNat (chrs atx) else T) := ⟨_, rfl⟩
  rw [← hT2] at HM ⊢
  rw [← hE] at HM ⊢
  have x0 : _ = some (Value.int .i64 ak) := hk.cell (j := 0) rfl
  have x1 : _ = some (Value.int .i64 aa) := hk.cell (j := 1) rfl
  have x2 : _ = some (Value.int .i64 ab) := hk.cell (j := 2) rfl
  have x5 : _ = some (Value.string atx) := hk.cell (j := 5) rfl
  have HB := Lib.hid hb
  have HPK := Lib.hid hpk
  clear hT hR h hF hB hro hs hb hk hE hT2 hpk
  go_enter Tryz.func13, Tryz.ntmps13
  go_wp2_with fail
  refine (HPK.out _).mono ?_
  rintro r w1 ⟨rfl, rfl⟩
  go_wp2_with fail
  refine HM.out.mono ?_
  rintro r w2 ⟨rfl, h1⟩
  have H1 := Lib.hid h1
  clear h1
  go_wp2_with fail
  go_ret2
  exact ⟨rfl, PB.then (T1 := T) (B1 := B) HB.out H1.out⟩
set_option maxRecDepth 100000 in
set_option maxHeartbeats 2000000 in
theorem do_goto7 (hT : Tabs N w) (hR : Rules N w) (h : PB N w b F T B) (hF : edF N F) (hB : B ≤ 600000) (hro : T.S.ro = false) (hs : e.tx.size ≤ 60) (hk : pickI e.k 32 = 7) :
    Calls Tryz.prog 13 #[pAt b, actV e] w (DoP N w b F (delE T e.a e.a) ((if delE T e.a e.a = 0 then { T with S := { T.S with pt := (e.a).toNat } } else T)) (B)) := by
  obtain ⟨ak, aa, ab, aid, anm, atx, aon, aal, avk, avn, asA, asp, asc⟩ := e
  simp only at hs hk ⊢
  have hpk := fun w => pick_any ak 32 w (by omega) (by omega)
  rw [hk] at hpk
  clear hk
  have hb := below1 w (.cells (encA ⟨ak, aa, ab, aid, anm, atx, aon, aal, avk, avn, asA, asp, asc⟩).toArray 34)
  have hk := Blk.made w 34 (encA ⟨ak, aa, ab, aid, anm, atx, aon, aal, avk, avn, asA, asp, asc⟩).toArray
  have HM := Lib.hid (bGoto (h.up hb) aa)
  obtain ⟨E, hE⟩ : ∃ E : Int, E = delE T aa aa := ⟨_, rfl⟩
  obtain ⟨T2, hT2⟩ : ∃ T2 : Tx, T2 = (if delE T aa aa = 0 then { T with S := { T.S with pt := (aa).toNat } } else T) := ⟨_, rfl⟩
  rw [← hT2] at HM ⊢
  rw [← hE] at HM ⊢
  have x0 : _ = some (Value.int .i64 ak) := hk.cell (j := 0) rfl
  have x1 : _ = some (Value.int .i64 aa) := hk.cell (j := 1) rfl
  have HB := Lib.hid hb
  have HPK := Lib.hid hpk
  clear hT hR h hF hB hro hs hb hk hE hT2 hpk
  go_enter Tryz.func13, Tryz.ntmps13
  go_wp2_with fail
  refine (HPK.out _).mono ?_
  rintro r w1 ⟨rfl, rfl⟩
  go_wp2_with fail
  refine HM.out.mono ?_
  rintro r w2 ⟨rfl, h1⟩
  have H1 := Lib.hid h1
  clear h1
  go_wp2_with fail
  go_ret2
  exact ⟨rfl, PB.then (T1 := T) (B1 := B) HB.out H1.out⟩
set_option maxRecDepth 100000 in
set_option maxHeartbeats 2000000 in
theorem do_goto8 (hT : Tabs N w) (hR : Rules N w) (h : PB N w b F T B) (hF : edF N F) (hB : B ≤ 600000) (hro : T.S.ro = false) (hs : e.tx.size ≤ 60) (hk : pickI e.k 32 = 8) :
    Calls Tryz.prog 13 #[pAt b, actV e] w (DoP N w b F (delE T e.a e.a) ((if delE T e.a e.a = 0 then { T with S := { T.S with pt := (e.a).toNat } } else T)) (B)) := by
  obtain ⟨ak, aa, ab, aid, anm, atx, aon, aal, avk, avn, asA, asp, asc⟩ := e
  simp only at hs hk ⊢
  have hpk := fun w => pick_any ak 32 w (by omega) (by omega)
  rw [hk] at hpk
  clear hk
  have hb := below1 w (.cells (encA ⟨ak, aa, ab, aid, anm, atx, aon, aal, avk, avn, asA, asp, asc⟩).toArray 34)
  have hk := Blk.made w 34 (encA ⟨ak, aa, ab, aid, anm, atx, aon, aal, avk, avn, asA, asp, asc⟩).toArray
  have HM := Lib.hid (bGoto (h.up hb) aa)
  obtain ⟨E, hE⟩ : ∃ E : Int, E = delE T aa aa := ⟨_, rfl⟩
  obtain ⟨T2, hT2⟩ : ∃ T2 : Tx, T2 = (if delE T aa aa = 0 then { T with S := { T.S with pt := (aa).toNat } } else T) := ⟨_, rfl⟩
  rw [← hT2] at HM ⊢
  rw [← hE] at HM ⊢
  have x0 : _ = some (Value.int .i64 ak) := hk.cell (j := 0) rfl
  have x1 : _ = some (Value.int .i64 aa) := hk.cell (j := 1) rfl
  have HB := Lib.hid hb
  have HPK := Lib.hid hpk
  clear hT hR h hF hB hro hs hb hk hE hT2 hpk
  go_enter Tryz.func13, Tryz.ntmps13
  go_wp2_with fail
  refine (HPK.out _).mono ?_
  rintro r w1 ⟨rfl, rfl⟩
  go_wp2_with fail
  refine HM.out.mono ?_
  rintro r w2 ⟨rfl, h1⟩
  have H1 := Lib.hid h1
  clear h1
  go_wp2_with fail
  go_ret2
  exact ⟨rfl, PB.then (T1 := T) (B1 := B) HB.out H1.out⟩
theorem do_ins (hT : Tabs N w) (hR : Rules N w) (h : PB N w b F T B) (hF : edF N F) (hB : B ≤ 600000) (hro : T.S.ro = false) (hs : e.tx.size ≤ 60) (hk : pickI e.k 32 = 0 ∨ pickI e.k 32 = 1 ∨ pickI e.k 32 = 2) :
    Calls Tryz.prog 13 #[pAt b, actV e] w (DoP N w b F (fitsE e.tx T.cs.length 0) (if fitsE e.tx T.cs.length 0 = 0 then insT T (chrs e.tx) (decide (pickI e.k 32 = 2)) else T) (B + 4)) := by
  rcases hk with hk | hk | hk
  · rw [show decide (pickI e.k 32 = 2) = false by rw [hk]; rfl]; exact do_ins0 hT hR h hF hB hro hs hk
  · rw [show decide (pickI e.k 32 = 2) = false by rw [hk]; rfl]; exact do_ins1 hT hR h hF hB hro hs hk
  · rw [show decide (pickI e.k 32 = 2) = true by rw [hk]; rfl]; exact do_ins2 hT hR h hF hB hro hs hk
theorem do_goto (hT : Tabs N w) (hR : Rules N w) (h : PB N w b F T B) (hF : edF N F) (hB : B ≤ 600000) (hro : T.S.ro = false) (hs : e.tx.size ≤ 60) (hk : pickI e.k 32 = 7 ∨ pickI e.k 32 = 8) :
    Calls Tryz.prog 13 #[pAt b, actV e] w (DoP N w b F (delE T e.a e.a) (if delE T e.a e.a = 0 then { T with S := { T.S with pt := (e.a).toNat } } else T) B) := by
  rcases hk with hk | hk
  · exact do_goto7 hT hR h hF hB hro hs hk
  · exact do_goto8 hT hR h hF hB hro hs hk
end
end Go.Proofs.YtobnmpgfkgoapaaGreatDoor
