/- copyistlaw25.KillScript: the walk. -/
import Derived.Test.YtmnmloebomlllaaDoorKrM
namespace Go.Proofs.YtmnmloebomlllaaDoor
open Go.RowKit
set_option linter.unusedVariables false
set_option linter.unusedSimpArgs false
section
variable {w w' : World} {b N : Nat} {L : List ByteArray} {most at_ : Nat} {v : Value}
set_option maxHeartbeats 1000000 in
theorem script_bad (A : Option Addr) (c : Nat) (l : List KAct) (most : Int) (w : World) (h : RSl encA w A l) (hl : l.length ≤ 9223372036854775807) (hts : ∀ a ∈ l, a.text.size ≤ 9223372036854775807) (hT : Tabs w.heap.size w) (hb : most < 1 ∨ 60 < most ∨ lightB l = false) :
    Calls Tryd.prog 4 #[.int .i64 most, .slice A l.length c] w fun e w' => e = .returned (.bool true) ∧ Below w.heap.size w w' := by
  have HLV := Lib.hid (lives_true hT (Nat.le_refl _))
  have hli := fun w1 (hb1 : Below w.heap.size w w1) => light_any (w := w1) c (h.up hb1) hl hts
  have HLI := Lib.hid hli
  clear hli h hT hts
  by_cases hlt : lightB l = false
  · rw [hlt] at HLI
    go_enter Tryd.func4, Tryd.ntmps4
    go_wp2_with fail
    refine HLV.out.mono ?_
    rintro e w1 ⟨rfl, hb1⟩
    go_wp2_with fail
    refine (HLI.out w1 hb1).mono ?_
    rintro e w' ⟨rfl, rfl⟩
    go_wp2_with fail
    go_ret
    exact ⟨rfl, hb1⟩
  · have hlt' : lightB l = true := by simpa using hlt
    rw [hlt'] at HLI
    have hb' : most < 1 ∨ 60 < most := by rcases hb with h | h | h; exact .inl h; exact .inr h; exact absurd h hlt
    clear hlt hlt' hb
    have HB := Lib.hid hb'
    clear hb'
    have hd : decide ((0 : Int) < l.length) = decide ((0 : Int) < l.length) := rfl
    clear hd
    go_enter Tryd.func4, Tryd.ntmps4
    go_wp2_with fail
    refine HLV.out.mono ?_
    rintro e w1 ⟨rfl, hb1⟩
    go_wp2_with fail
    refine (HLI.out w1 hb1).mono ?_
    rintro e w' ⟨rfl, rfl⟩
    go_wp2_with fail
    refine (knew_bad most w1 HB.out).mono ?_
    rintro e w' ⟨rfl, rfl⟩
    go_wp2_with fail
    refine (rnew_bad most w1 HB.out).mono ?_
    rintro e w' ⟨rfl, rfl⟩
    go_wp2_with fail
    refine wp_loop_rounds 1 ?_
    rw [rounds_succ]
    go_wp2_with fail
    all_goals
      go_region
      go_wp2_with fail
      go_ret
      exact ⟨rfl, hb1.drew⟩
set_option maxRecDepth 100000 in
set_option maxHeartbeats 4000000 in
theorem script_good (A : Option Addr) (c : Nat) (l : List KAct) (most : Nat) (w : World) (h : RSl encA w A l) (hl : l.length ≤ 60) (hts : ∀ a ∈ l, a.text.size ≤ 40) (hT : Tabs w.heap.size w) (hm0 : 1 ≤ most) (hm1 : most ≤ 60) (hlb : lightB l = true) :
    Calls Tryd.prog 4 #[.int .i64 most, .slice A l.length c] w fun e w' => e = .returned (.bool true) ∧ Below w.heap.size w w' := by
  have HLV := Lib.hid (lives_true hT (Nat.le_refl _))
  have hli := fun w1 (hb1 : Below w.heap.size w w1) => light_any (w := w1) c (h.up hb1) (by omega) (fun a ha => by have := hts a ha; omega)
  rw [hlb] at hli
  have HLI := Lib.hid hli
  have HH := Lib.hid h
  have HT := Lib.hid hT
  have HTS := Lib.hid hts
  clear hli h hT hts hlb
  go_enter Tryd.func4, Tryd.ntmps4
  go_wp2_with fail
  refine HLV.out.mono ?_
  rintro e w1 ⟨rfl, hb1⟩
  go_wp2_with fail
  refine (HLI.out w1 hb1).mono ?_
  rintro e w' ⟨rfl, rfl⟩
  go_wp2_with fail
  refine (knew_ok most w1 hm0 hm1).mono ?_
  rintro e w2 ⟨rfl, hr2, hb2⟩
  have h2 : Ring w2 w1.heap.size [] most 0 := ⟨_, _, hr2, rfl⟩
  have hb12 := up2 hb1 hb2
  clear hr2
  go_wp2_with fail
  refine (rnew_ok most w2 hm0 hm1).mono ?_
  rintro e w3 ⟨rfl, hr3, hb3⟩
  have h3 := h2.up hb3
  have hb13 := up2 hb12 hb3
  have hlt12 := h2.lt
  have hs01 := hb1.size
  obtain ⟨b1, hb1e⟩ : ∃ b1, w1.heap.size = b1 := ⟨_, rfl⟩
  obtain ⟨b2, hb2e⟩ : ∃ b2, w2.heap.size = b2 := ⟨_, rfl⟩
  rw [hb1e] at h3 hlt12 hs01
  rw [hb2e] at hr3 hlt12
  rw [hb1e, hb2e]
  clear hb1e hb2e h2 hb1 hb2 hb3 hb12
  go_wp2_with fail
  go_loopw [9] (fun vi wr => ∃ (k : Nat) (L : List ByteArray) (at_ : Nat) (v : Value), k ≤ l.length ∧ vi = .int .i64 k ∧ Ring wr b1 L most at_ ∧ RRing wr b2 v L most at_ ∧ (∀ g, v.ownBlock = some g → w.heap.size ≤ g ∧ g ≠ b1) ∧ (∀ x ∈ L, x.size ≤ 40 * k) ∧ Below w.heap.size w wr) (fun vi _ => l.length - (intOf vi).toNat)
  case atStart => exact ⟨0, [], 0, _, by omega, rfl, h3, hr3, by simp [Value.ownBlock], by simp, hb13⟩
  case round =>
    obtain ⟨k, L, at_, v, hk, rfl, hR, hRR, hv, hsz, hbel⟩ := hrel
    clear h3 hr3 hb13
    have HV := Lib.hid hv
    have HSZ := Lib.hid hsz
    clear hv hsz
    by_cases hlt : k < l.length
    · obtain ⟨a, hx⟩ : ∃ a, l[k]? = some a := ⟨_, List.getElem?_eq_getElem hlt⟩
      have ha := HTS.out a (List.mem_of_getElem? hx)
      have hhd := head_size HSZ.out
      have hT1 := HT.out.up hbel
      have hdo := hR.cDo a (by omega) hT1 hs01
      have hrk : ∀ w1 v1, RRing w1 b2 v1 L most at_ → Calls Tryd.prog 17 #[.pointer (some ⟨b2, 0, none⟩), .string a.text] w1 (RK1 w1 b2 v1 most (killK most L at_ a.text)) := fun w1 v1 h => h.cKill a.text (by omega)
      have hra : ∀ w1 v1, RRing w1 b2 v1 L most at_ → Calls Tryd.prog 18 #[.pointer (some ⟨b2, 0, none⟩), .string a.text, .bool a.ahead] w1 (RK1 w1 b2 v1 most (appK most L at_ a.text a.ahead)) := fun w1 v1 h => h.cApp a.text a.ahead (by omega)
      have hry : ∀ w1 v1, RRing w1 b2 v1 L most at_ → Calls Tryd.prog 19 #[.pointer (some ⟨b2, 0, none⟩), .int .i64 a.n] w1 (RK2 w1 b2 v1 most (yankK L at_ a.n)) := fun w1 v1 h => h.cYank a.n
      have hrp : ∀ w1 v1, RRing w1 b2 v1 L most at_ → Calls Tryd.prog 20 #[.pointer (some ⟨b2, 0, none⟩), .int .i64 a.n] w1 (RK2 w1 b2 v1 most (popK L at_ a.n)) := fun w1 v1 h => h.cPop a.n
      have hp := pick_pos a.kind 6 (by omega)
      have hpk := fun w1 => pick_any a.kind 6 w1 (by omega) (by omega)
      have hsz' := doK_size (most := most) (at_ := at_) HSZ.out a ha
      have hkx := killK_x most L at_ a.text
      have hax := appK_x most L at_ a.text a.ahead
      obtain ⟨r, hr⟩ : ∃ r, doK most L at_ a = r := ⟨_, rfl⟩
      rw [hr] at hdo hsz'
      have hrd : (pickI a.kind 6 = 0 ∨ pickI a.kind 6 = 1 → killK most L at_ a.text = r) ∧ (pickI a.kind 6 = 2 → appK most L at_ a.text a.ahead = r) ∧ (pickI a.kind 6 = 3 → yankK L at_ a.n = r) ∧ (4 ≤ pickI a.kind 6 → popK L at_ a.n = r) := by
        unfold doK at hr
        refine ⟨fun h => by rwa [if_pos h] at hr, fun h => by rwa [if_neg (by omega), if_pos h] at hr, fun h => by rwa [if_neg (by omega), if_neg (by omega), if_pos h] at hr, fun h => by rwa [if_neg (by omega), if_neg (by omega), if_neg (by omega)] at hr⟩
      generalize pickI a.kind 6 = p at *
      obtain ⟨kind, n, text, ahead⟩ := a
      dsimp only at *
      obtain ⟨g, o, hAe, hg, hc⟩ := (HH.out.up hbel).at_ eltA hx
      have c0 : wr.cell? ⟨g, o + k * 4, none⟩ = some (.int .i64 kind) := hc 0 _ rfl
      have c1 : wr.cell? ⟨g, o + k * 4 + 1, none⟩ = some (.int .i64 n) := hc 1 _ rfl
      have c2 : wr.cell? ⟨g, o + k * 4 + 2, none⟩ = some (.string text) := hc 2 _ rfl
      have c3 : wr.cell? ⟨g, o + k * 4 + 3, none⟩ = some (.bool ahead) := hc 3 _ rfl
      have hcu : ∀ w2, Below w.heap.size w w2 → w2.cell? ⟨g, o + k * 4, none⟩ = some (.int .i64 kind) ∧ w2.cell? ⟨g, o + k * 4 + 1, none⟩ = some (.int .i64 n) ∧ w2.cell? ⟨g, o + k * 4 + 2, none⟩ = some (.string text) ∧ w2.cell? ⟨g, o + k * 4 + 3, none⟩ = some (.bool ahead) := fun w2 hb2 => by
        obtain ⟨g', o', hAe', _, hc'⟩ := (HH.out.up hb2).at_ eltA hx
        rw [hAe] at hAe'
        cases hAe'
        exact ⟨hc' 0 _ rfl, hc' 1 _ rfl, hc' 2 _ rfl, hc' 3 _ rfl⟩
      have HCU := Lib.hid hcu
      subst hAe
      have HDO := Lib.hid hdo
      have HRK := Lib.hid hrk
      have HRA := Lib.hid hra
      have HRY := Lib.hid hry
      have HRP := Lib.hid hrp
      have HPK := Lib.hid hpk
      have HKX := Lib.hid hkx
      have HAX := Lib.hid hax
      have HRD := Lib.hid hrd
      have HSZ' := Lib.hid hsz'
      have hlt' : (k : Int) < l.length := by omega
      have hRl := hR.lt
      clear hdo hrk hra hry hrp hpk hkx hax hrd hr hcu hc hsz' hx hhd ha hT1
      go_wp2_with fail
      refine HDO.out.mono ?_
      rintro e w4 ⟨rfl, hR4, ho4⟩
      have hb4 : Below w.heap.size w w4 := hbel.trans (ho4.below hbel.size (fun k hk => by subst hk; exact hs01))
      have hRR4 : RRing w4 b2 v L most at_ := hRR.kept (ho4.block b2 hRR.lt (fun e => absurd (show b2 = b1 from e) (by omega))) (fun g hg => ho4.block g (hRR.own.lt hg) (fun e => (HV.out g hg).2 e))
      obtain ⟨c0', c1', c2', c3'⟩ := HCU.out w4 hb4
      clear c0 c1 c2 c3 ho4
      go_wp2_with fail
      refine (HPK.out w4).mono ?_
      rintro e w' ⟨rfl, rfl⟩
      obtain rfl | rfl | rfl | rfl | rfl | rfl : p = 0 ∨ p = 1 ∨ p = 2 ∨ p = 3 ∨ p = 4 ∨ p = 5 := by omega
      · go_wp2_with fail
        refine (HRK.out _ _ hRR4).mono ?_
        rintro e w5 ⟨rfl, v5, hRR5, ho5, hf5⟩
        rw [show killK most L at_ text = r from HRD.out.1 (by simp)] at hRR5 ⊢
        have hrx : r.x = ⟨#[]⟩ := by rw [← show killK most L at_ text = r from HRD.out.1 (by simp)]; exact HKX.out
        rw [hrx]
        clear hrx
        have hR4l := hR4.lt
        have hR5 : Ring w5 b1 r.L most r.at_ := hR4.kept (ho5.block b1 hR4l (fun e => by rcases e with e | e; exact absurd (show b1 = b2 from e) (by omega); exact (HV.out _ e).2 rfl))
        have hb5 : Below w.heap.size w w5 := hb4.trans (ho5.below hb4.size (fun k hk => by rcases hk with hk | hk; subst hk; omega; exact (HV.out _ hk).1))
        have hv5 : ∀ g, v5.ownBlock = some g → w.heap.size ≤ g ∧ g ≠ b1 := fun g hg => by
          rcases hf5 with hf5 | hf5
          · exact HV.out g (hf5 ▸ hg)
          · have := hf5 g hg; have := hb4.size; exact ⟨by omega, by omega⟩
        have HV5 := Lib.hid hv5
        have hrl := hR5.len
        have hall := (hR5.kept (w' := w5.drew) rfl).all
        obtain ⟨A5, c5, rfl, hA51, hA52, hA53⟩ := hRR5.own.shape eltS
        have e0 := hRR5.c0
        have C0 : ∀ y : UpW w5.heap.size w5, y.w.cell? ⟨b2, 0, none⟩ = some (.slice A5 r.L.length c5) := fun y => (y.up.cell (p := ⟨b2, 0, none⟩) hRR5.lt).trans e0
        have HALL := Lib.hid hall
        have HA53 := Lib.hid hA53
        clear hv5 hall hA53 e0 c0' c1' c2' c3' hRR4 hR4 hRR hR hbel
        go_wp2_with fail
        refine wp_region_mix w5.heap.size 18 [([0, 1, 2, 3, 4, 5, 6, 7, 8, 9, 11, 12, 13, 14], 10), ([], 15)] [16, 17] (by kernel_rfl) (fun c d v a w h => by cases d <;> exact h) (by kernel_rfl) ?_
        simp only [wpMix, pk_nil, pk_cons, pushAt_zero, pushAt_succ, List.drop_succ_cons, List.drop_zero]
        repeat (go_big_quiet_step (fail))
        refine wpQuiet_nil ?_
        go_wp2_with fail
        refine HALL.out.mono ?_
        rintro e w6 ⟨v6, rfl, hown6, hb6⟩
        have hb56 : Below w5.heap.size w5 w6 := (Below.refl _ _).drew.trans hb6
        obtain ⟨A6, c6, rfl, hA61, hA62, hA63⟩ := hown6.shape eltS
        go_wp2_with fail
        refine thenQ_normal ⟨⟨⟨_, hb56⟩, rfl⟩, ?_⟩
        refine wpQuiet_nil ?_
        go_wp2_with fail
        refine (sameS_true c6 c5 hA63 (HA53.out.up hb56) (by omega)).mono ?_
        rintro e w7 ⟨rfl, hb7⟩
        have hb57 : Below w5.heap.size w5 w7 := up2 hb56 hb7
        go_wp2_with fail
        refine thenQ_normal ⟨⟨⟨_, hb57⟩, rfl⟩, ?_⟩
        repeat (go_big_quiet_step (fail))
        refine wpQuiet_nil ?_
        clear C0
        go_wp2_with fail
        go_roundw
        case rel => exact ⟨k + 1, r.L, r.at_, _, by omega, by go_num, hR5.up hb57, hRR5.up hb57, HV5.out, by rw [Nat.mul_add]; exact HSZ'.out, up2 hb5 hb57⟩
        case measure => simp [intOf]; omega
      · go_wp2_with fail
        refine (HRK.out _ _ hRR4).mono ?_
        rintro e w5 ⟨rfl, v5, hRR5, ho5, hf5⟩
        rw [show killK most L at_ text = r from HRD.out.1 (by simp)] at hRR5 ⊢
        have hrx : r.x = ⟨#[]⟩ := by rw [← show killK most L at_ text = r from HRD.out.1 (by simp)]; exact HKX.out
        rw [hrx]
        clear hrx
        have hR4l := hR4.lt
        have hR5 : Ring w5 b1 r.L most r.at_ := hR4.kept (ho5.block b1 hR4l (fun e => by rcases e with e | e; exact absurd (show b1 = b2 from e) (by omega); exact (HV.out _ e).2 rfl))
        have hb5 : Below w.heap.size w w5 := hb4.trans (ho5.below hb4.size (fun k hk => by rcases hk with hk | hk; subst hk; omega; exact (HV.out _ hk).1))
        have hv5 : ∀ g, v5.ownBlock = some g → w.heap.size ≤ g ∧ g ≠ b1 := fun g hg => by
          rcases hf5 with hf5 | hf5
          · exact HV.out g (hf5 ▸ hg)
          · have := hf5 g hg; have := hb4.size; exact ⟨by omega, by omega⟩
        have HV5 := Lib.hid hv5
        have hrl := hR5.len
        have hall := (hR5.kept (w' := w5.drew) rfl).all
        obtain ⟨A5, c5, rfl, hA51, hA52, hA53⟩ := hRR5.own.shape eltS
        have e0 := hRR5.c0
        have C0 : ∀ y : UpW w5.heap.size w5, y.w.cell? ⟨b2, 0, none⟩ = some (.slice A5 r.L.length c5) := fun y => (y.up.cell (p := ⟨b2, 0, none⟩) hRR5.lt).trans e0
        have HALL := Lib.hid hall
        have HA53 := Lib.hid hA53
        clear hv5 hall hA53 e0 c0' c1' c2' c3' hRR4 hR4 hRR hR hbel
        go_wp2_with fail
        refine wp_region_mix w5.heap.size 18 [([0, 1, 2, 3, 4, 5, 6, 7, 8, 9, 11, 12, 13, 14], 10), ([], 15)] [16, 17] (by kernel_rfl) (fun c d v a w h => by cases d <;> exact h) (by kernel_rfl) ?_
        simp only [wpMix, pk_nil, pk_cons, pushAt_zero, pushAt_succ, List.drop_succ_cons, List.drop_zero]
        repeat (go_big_quiet_step (fail))
        refine wpQuiet_nil ?_
        go_wp2_with fail
        refine HALL.out.mono ?_
        rintro e w6 ⟨v6, rfl, hown6, hb6⟩
        have hb56 : Below w5.heap.size w5 w6 := (Below.refl _ _).drew.trans hb6
        obtain ⟨A6, c6, rfl, hA61, hA62, hA63⟩ := hown6.shape eltS
        go_wp2_with fail
        refine thenQ_normal ⟨⟨⟨_, hb56⟩, rfl⟩, ?_⟩
        refine wpQuiet_nil ?_
        go_wp2_with fail
        refine (sameS_true c6 c5 hA63 (HA53.out.up hb56) (by omega)).mono ?_
        rintro e w7 ⟨rfl, hb7⟩
        have hb57 : Below w5.heap.size w5 w7 := up2 hb56 hb7
        go_wp2_with fail
        refine thenQ_normal ⟨⟨⟨_, hb57⟩, rfl⟩, ?_⟩
        repeat (go_big_quiet_step (fail))
        refine wpQuiet_nil ?_
        clear C0
        go_wp2_with fail
        go_roundw
        case rel => exact ⟨k + 1, r.L, r.at_, _, by omega, by go_num, hR5.up hb57, hRR5.up hb57, HV5.out, by rw [Nat.mul_add]; exact HSZ'.out, up2 hb5 hb57⟩
        case measure => simp [intOf]; omega
      · go_wp2_with fail
        have C2 : ∀ y : UpW w4.heap.size w4, y.w.cell? ⟨g, o + k * 4 + 2, none⟩ = some (.string text) := fun y => (HCU.out _ (hb4.trans (y.up.mono hb4.size))).2.2.1
        have C3 : ∀ y : UpW w4.heap.size w4, y.w.cell? ⟨g, o + k * 4 + 3, none⟩ = some (.bool ahead) := fun y => (HCU.out _ (hb4.trans (y.up.mono hb4.size))).2.2.2
        refine wp_region_mix w4.heap.size 11 [] [0, 1, 2, 3, 4, 5, 6, 7, 8, 9, 10] (by kernel_rfl) (fun c d v a w h => by cases d <;> exact h) (by kernel_rfl) ?_
        simp only [wpMix, pk_nil, pk_cons, pushAt_zero, pushAt_succ, List.drop_succ_cons, List.drop_zero]
        repeat (go_big_quiet_step (fail))
        refine wpQuiet_nil ?_
        have hRR4' : RRing w4.drew b2 v L most at_ := hRR4.kept rfl (fun _ _ => rfl)
        clear C2 C3
        go_wp2_with fail
        refine (HRA.out _ _ hRR4').mono ?_
        rintro e w5 ⟨rfl, v5, hRR5, ho5', hf5'⟩
        have ho5 : Only (fun k => k = b2 ∨ v.ownBlock = some k) w4 w5 := (Only.of_below (Below.refl _ _).drew).trans ho5'
        have hf5 : v5.ownBlock = v.ownBlock ∨ ∀ g, v5.ownBlock = some g → w4.heap.size ≤ g := hf5'
        clear ho5' hf5'
        rw [show appK most L at_ text ahead = r from HRD.out.2.1 (by simp)] at hRR5 ⊢
        have hrx : r.x = ⟨#[]⟩ := by rw [← show appK most L at_ text ahead = r from HRD.out.2.1 (by simp)]; exact HAX.out
        rw [hrx]
        clear hrx
        have hR4l := hR4.lt
        have hR5 : Ring w5 b1 r.L most r.at_ := hR4.kept (ho5.block b1 hR4l (fun e => by rcases e with e | e; exact absurd (show b1 = b2 from e) (by omega); exact (HV.out _ e).2 rfl))
        have hb5 : Below w.heap.size w w5 := hb4.trans (ho5.below hb4.size (fun k hk => by rcases hk with hk | hk; subst hk; omega; exact (HV.out _ hk).1))
        have hv5 : ∀ g, v5.ownBlock = some g → w.heap.size ≤ g ∧ g ≠ b1 := fun g hg => by
          rcases hf5 with hf5 | hf5
          · exact HV.out g (hf5 ▸ hg)
          · have := hf5 g hg; have := hb4.size; exact ⟨by omega, by omega⟩
        have HV5 := Lib.hid hv5
        have hrl := hR5.len
        have hall := (hR5.kept (w' := w5.drew) rfl).all
        obtain ⟨A5, c5, rfl, hA51, hA52, hA53⟩ := hRR5.own.shape eltS
        have e0 := hRR5.c0
        have C0 : ∀ y : UpW w5.heap.size w5, y.w.cell? ⟨b2, 0, none⟩ = some (.slice A5 r.L.length c5) := fun y => (y.up.cell (p := ⟨b2, 0, none⟩) hRR5.lt).trans e0
        have HALL := Lib.hid hall
        have HA53 := Lib.hid hA53
        clear hRR4' hv5 hall hA53 e0 c0' c1' c2' c3' hRR4 hR4 hRR hR hbel
        go_wp2_with fail
        refine wp_region_mix w5.heap.size 18 [([0, 1, 2, 3, 4, 5, 6, 7, 8, 9, 11, 12, 13, 14], 10), ([], 15)] [16, 17] (by kernel_rfl) (fun c d v a w h => by cases d <;> exact h) (by kernel_rfl) ?_
        simp only [wpMix, pk_nil, pk_cons, pushAt_zero, pushAt_succ, List.drop_succ_cons, List.drop_zero]
        repeat (go_big_quiet_step (fail))
        refine wpQuiet_nil ?_
        go_wp2_with fail
        refine HALL.out.mono ?_
        rintro e w6 ⟨v6, rfl, hown6, hb6⟩
        have hb56 : Below w5.heap.size w5 w6 := (Below.refl _ _).drew.trans hb6
        obtain ⟨A6, c6, rfl, hA61, hA62, hA63⟩ := hown6.shape eltS
        go_wp2_with fail
        refine thenQ_normal ⟨⟨⟨_, hb56⟩, rfl⟩, ?_⟩
        refine wpQuiet_nil ?_
        go_wp2_with fail
        refine (sameS_true c6 c5 hA63 (HA53.out.up hb56) (by omega)).mono ?_
        rintro e w7 ⟨rfl, hb7⟩
        have hb57 : Below w5.heap.size w5 w7 := up2 hb56 hb7
        go_wp2_with fail
        refine thenQ_normal ⟨⟨⟨_, hb57⟩, rfl⟩, ?_⟩
        repeat (go_big_quiet_step (fail))
        refine wpQuiet_nil ?_
        clear C0
        go_wp2_with fail
        go_roundw
        case rel => exact ⟨k + 1, r.L, r.at_, _, by omega, by go_num, hR5.up hb57, hRR5.up hb57, HV5.out, by rw [Nat.mul_add]; exact HSZ'.out, up2 hb5 hb57⟩
        case measure => simp [intOf]; omega
      · go_wp2_with fail
        refine (HRY.out _ _ hRR4).mono ?_
        rintro e w5 ⟨rfl, v5, hRR5, ho5, hf5⟩
        rw [show yankK L at_ n = r from HRD.out.2.2.1 (by simp)] at hRR5 ⊢
        have hR4l := hR4.lt
        have hR5 : Ring w5 b1 r.L most r.at_ := hR4.kept (ho5.block b1 hR4l (fun e => by rcases e with e | e; exact absurd (show b1 = b2 from e) (by omega); exact (HV.out _ e).2 rfl))
        have hb5 : Below w.heap.size w w5 := hb4.trans (ho5.below hb4.size (fun k hk => by rcases hk with hk | hk; subst hk; omega; exact (HV.out _ hk).1))
        have hv5 : ∀ g, v5.ownBlock = some g → w.heap.size ≤ g ∧ g ≠ b1 := fun g hg => by
          rcases hf5 with hf5 | hf5
          · exact HV.out g (hf5 ▸ hg)
          · have := hf5 g hg; have := hb4.size; exact ⟨by omega, by omega⟩
        have HV5 := Lib.hid hv5
        have hrl := hR5.len
        have hall := (hR5.kept (w' := w5.drew) rfl).all
        obtain ⟨A5, c5, rfl, hA51, hA52, hA53⟩ := hRR5.own.shape eltS
        have e0 := hRR5.c0
        have C0 : ∀ y : UpW w5.heap.size w5, y.w.cell? ⟨b2, 0, none⟩ = some (.slice A5 r.L.length c5) := fun y => (y.up.cell (p := ⟨b2, 0, none⟩) hRR5.lt).trans e0
        have HALL := Lib.hid hall
        have HA53 := Lib.hid hA53
        clear hv5 hall hA53 e0 c0' c1' c2' c3' hRR4 hR4 hRR hR hbel
        go_wp2_with fail
        refine wp_region_mix w5.heap.size 18 [([0, 1, 2, 3, 4, 5, 6, 7, 8, 9, 11, 12, 13, 14], 10), ([], 15)] [16, 17] (by kernel_rfl) (fun c d v a w h => by cases d <;> exact h) (by kernel_rfl) ?_
        simp only [wpMix, pk_nil, pk_cons, pushAt_zero, pushAt_succ, List.drop_succ_cons, List.drop_zero]
        repeat (go_big_quiet_step (fail))
        refine wpQuiet_nil ?_
        go_wp2_with fail
        refine HALL.out.mono ?_
        rintro e w6 ⟨v6, rfl, hown6, hb6⟩
        have hb56 : Below w5.heap.size w5 w6 := (Below.refl _ _).drew.trans hb6
        obtain ⟨A6, c6, rfl, hA61, hA62, hA63⟩ := hown6.shape eltS
        go_wp2_with fail
        refine thenQ_normal ⟨⟨⟨_, hb56⟩, rfl⟩, ?_⟩
        refine wpQuiet_nil ?_
        go_wp2_with fail
        refine (sameS_true c6 c5 hA63 (HA53.out.up hb56) (by omega)).mono ?_
        rintro e w7 ⟨rfl, hb7⟩
        have hb57 : Below w5.heap.size w5 w7 := up2 hb56 hb7
        go_wp2_with fail
        refine thenQ_normal ⟨⟨⟨_, hb57⟩, rfl⟩, ?_⟩
        repeat (go_big_quiet_step (fail))
        refine wpQuiet_nil ?_
        clear C0
        go_wp2_with fail
        go_roundw
        case rel => exact ⟨k + 1, r.L, r.at_, _, by omega, by go_num, hR5.up hb57, hRR5.up hb57, HV5.out, by rw [Nat.mul_add]; exact HSZ'.out, up2 hb5 hb57⟩
        case measure => simp [intOf]; omega
      · go_wp2_with fail
        refine (HRP.out _ _ hRR4).mono ?_
        rintro e w5 ⟨rfl, v5, hRR5, ho5, hf5⟩
        rw [show popK L at_ n = r from HRD.out.2.2.2 (by decide)] at hRR5 ⊢
        have hR4l := hR4.lt
        have hR5 : Ring w5 b1 r.L most r.at_ := hR4.kept (ho5.block b1 hR4l (fun e => by rcases e with e | e; exact absurd (show b1 = b2 from e) (by omega); exact (HV.out _ e).2 rfl))
        have hb5 : Below w.heap.size w w5 := hb4.trans (ho5.below hb4.size (fun k hk => by rcases hk with hk | hk; subst hk; omega; exact (HV.out _ hk).1))
        have hv5 : ∀ g, v5.ownBlock = some g → w.heap.size ≤ g ∧ g ≠ b1 := fun g hg => by
          rcases hf5 with hf5 | hf5
          · exact HV.out g (hf5 ▸ hg)
          · have := hf5 g hg; have := hb4.size; exact ⟨by omega, by omega⟩
        have HV5 := Lib.hid hv5
        have hrl := hR5.len
        have hall := (hR5.kept (w' := w5.drew) rfl).all
        obtain ⟨A5, c5, rfl, hA51, hA52, hA53⟩ := hRR5.own.shape eltS
        have e0 := hRR5.c0
        have C0 : ∀ y : UpW w5.heap.size w5, y.w.cell? ⟨b2, 0, none⟩ = some (.slice A5 r.L.length c5) := fun y => (y.up.cell (p := ⟨b2, 0, none⟩) hRR5.lt).trans e0
        have HALL := Lib.hid hall
        have HA53 := Lib.hid hA53
        clear hv5 hall hA53 e0 c0' c1' c2' c3' hRR4 hR4 hRR hR hbel
        go_wp2_with fail
        refine wp_region_mix w5.heap.size 18 [([0, 1, 2, 3, 4, 5, 6, 7, 8, 9, 11, 12, 13, 14], 10), ([], 15)] [16, 17] (by kernel_rfl) (fun c d v a w h => by cases d <;> exact h) (by kernel_rfl) ?_
        simp only [wpMix, pk_nil, pk_cons, pushAt_zero, pushAt_succ, List.drop_succ_cons, List.drop_zero]
        repeat (go_big_quiet_step (fail))
        refine wpQuiet_nil ?_
        go_wp2_with fail
        refine HALL.out.mono ?_
        rintro e w6 ⟨v6, rfl, hown6, hb6⟩
        have hb56 : Below w5.heap.size w5 w6 := (Below.refl _ _).drew.trans hb6
        obtain ⟨A6, c6, rfl, hA61, hA62, hA63⟩ := hown6.shape eltS
        go_wp2_with fail
        refine thenQ_normal ⟨⟨⟨_, hb56⟩, rfl⟩, ?_⟩
        refine wpQuiet_nil ?_
        go_wp2_with fail
        refine (sameS_true c6 c5 hA63 (HA53.out.up hb56) (by omega)).mono ?_
        rintro e w7 ⟨rfl, hb7⟩
        have hb57 : Below w5.heap.size w5 w7 := up2 hb56 hb7
        go_wp2_with fail
        refine thenQ_normal ⟨⟨⟨_, hb57⟩, rfl⟩, ?_⟩
        repeat (go_big_quiet_step (fail))
        refine wpQuiet_nil ?_
        clear C0
        go_wp2_with fail
        go_roundw
        case rel => exact ⟨k + 1, r.L, r.at_, _, by omega, by go_num, hR5.up hb57, hRR5.up hb57, HV5.out, by rw [Nat.mul_add]; exact HSZ'.out, up2 hb5 hb57⟩
        case measure => simp [intOf]; omega
      · go_wp2_with fail
        refine (HRP.out _ _ hRR4).mono ?_
        rintro e w5 ⟨rfl, v5, hRR5, ho5, hf5⟩
        rw [show popK L at_ n = r from HRD.out.2.2.2 (by decide)] at hRR5 ⊢
        have hR4l := hR4.lt
        have hR5 : Ring w5 b1 r.L most r.at_ := hR4.kept (ho5.block b1 hR4l (fun e => by rcases e with e | e; exact absurd (show b1 = b2 from e) (by omega); exact (HV.out _ e).2 rfl))
        have hb5 : Below w.heap.size w w5 := hb4.trans (ho5.below hb4.size (fun k hk => by rcases hk with hk | hk; subst hk; omega; exact (HV.out _ hk).1))
        have hv5 : ∀ g, v5.ownBlock = some g → w.heap.size ≤ g ∧ g ≠ b1 := fun g hg => by
          rcases hf5 with hf5 | hf5
          · exact HV.out g (hf5 ▸ hg)
          · have := hf5 g hg; have := hb4.size; exact ⟨by omega, by omega⟩
        have HV5 := Lib.hid hv5
        have hrl := hR5.len
        have hall := (hR5.kept (w' := w5.drew) rfl).all
        obtain ⟨A5, c5, rfl, hA51, hA52, hA53⟩ := hRR5.own.shape eltS
        have e0 := hRR5.c0
        have C0 : ∀ y : UpW w5.heap.size w5, y.w.cell? ⟨b2, 0, none⟩ = some (.slice A5 r.L.length c5) := fun y => (y.up.cell (p := ⟨b2, 0, none⟩) hRR5.lt).trans e0
        have HALL := Lib.hid hall
        have HA53 := Lib.hid hA53
        clear hv5 hall hA53 e0 c0' c1' c2' c3' hRR4 hR4 hRR hR hbel
        go_wp2_with fail
        refine wp_region_mix w5.heap.size 18 [([0, 1, 2, 3, 4, 5, 6, 7, 8, 9, 11, 12, 13, 14], 10), ([], 15)] [16, 17] (by kernel_rfl) (fun c d v a w h => by cases d <;> exact h) (by kernel_rfl) ?_
        simp only [wpMix, pk_nil, pk_cons, pushAt_zero, pushAt_succ, List.drop_succ_cons, List.drop_zero]
        repeat (go_big_quiet_step (fail))
        refine wpQuiet_nil ?_
        go_wp2_with fail
        refine HALL.out.mono ?_
        rintro e w6 ⟨v6, rfl, hown6, hb6⟩
        have hb56 : Below w5.heap.size w5 w6 := (Below.refl _ _).drew.trans hb6
        obtain ⟨A6, c6, rfl, hA61, hA62, hA63⟩ := hown6.shape eltS
        go_wp2_with fail
        refine thenQ_normal ⟨⟨⟨_, hb56⟩, rfl⟩, ?_⟩
        refine wpQuiet_nil ?_
        go_wp2_with fail
        refine (sameS_true c6 c5 hA63 (HA53.out.up hb56) (by omega)).mono ?_
        rintro e w7 ⟨rfl, hb7⟩
        have hb57 : Below w5.heap.size w5 w7 := up2 hb56 hb7
        go_wp2_with fail
        refine thenQ_normal ⟨⟨⟨_, hb57⟩, rfl⟩, ?_⟩
        repeat (go_big_quiet_step (fail))
        refine wpQuiet_nil ?_
        clear C0
        go_wp2_with fail
        go_roundw
        case rel => exact ⟨k + 1, r.L, r.at_, _, by omega, by go_num, hR5.up hb57, hRR5.up hb57, HV5.out, by rw [Nat.mul_add]; exact HSZ'.out, up2 hb5 hb57⟩
        case measure => simp [intOf]; omega
    · have hkn : k = l.length := by omega
      subst hkn
      have hrl := hR.len
      have hcp := (hR.kept (w' := wr.drew) rfl).copy
      obtain ⟨A5, c5, rfl, hA51, hA52, hA53⟩ := hRR.own.shape eltS
      have e0 := hRR.c0
      have C0 : ∀ y : UpW wr.heap.size wr, y.w.cell? ⟨b2, 0, none⟩ = some (.slice A5 L.length c5) := fun y => (y.up.cell (p := ⟨b2, 0, none⟩) hRR.lt).trans e0
      have HCP := Lib.hid hcp
      have HA53 := Lib.hid hA53
      clear hcp hA53 e0
      go_wp2_with fail
      refine wp_region_mix wr.heap.size 13 [([0, 1, 2, 3, 6, 7, 8, 9], 4), ([], 5), ([], 10)] [11, 12] (by kernel_rfl) (fun c d v a w h => by cases d <;> exact h) (by kernel_rfl) ?_
      simp only [wpMix, pk_nil, pk_cons, pushAt_zero, pushAt_succ, List.drop_succ_cons, List.drop_zero]
      repeat (go_big_quiet_step (fail))
      refine wpQuiet_nil ?_
      go_wp2_with fail
      refine HCP.out.mono ?_
      rintro e w6 ⟨b6, rfl, hb6n, hR6, hb6⟩
      have hb56 : Below wr.heap.size wr w6 := (Below.refl _ _).drew.trans hb6
      go_wp2_with fail
      refine thenQ_normal ⟨⟨⟨_, hb56⟩, rfl⟩, ?_⟩
      refine wpQuiet_nil ?_
      go_wp2_with fail
      refine hR6.all.mono ?_
      rintro e w7 ⟨v7, rfl, hown7, hb7⟩
      have hb57 : Below wr.heap.size wr w7 := up2 hb56 hb7
      obtain ⟨A7, c7, rfl, hA71, hA72, hA73⟩ := hown7.shape eltS
      go_wp2_with fail
      refine thenQ_normal ⟨⟨⟨_, hb57⟩, rfl⟩, ?_⟩
      refine wpQuiet_nil ?_
      go_wp2_with fail
      refine (sameS_true c7 c5 hA73 (HA53.out.up hb57) (by omega)).mono ?_
      rintro e w8 ⟨rfl, hb8⟩
      have hb58 : Below wr.heap.size wr w8 := up2 hb57 hb8
      go_wp2_with fail
      refine thenQ_normal ⟨⟨⟨_, hb58⟩, rfl⟩, ?_⟩
      repeat (go_big_quiet_step (fail))
      refine wpQuiet_nil ?_
      clear C0
      go_wp2_with fail
      go_ret
      exact ⟨rfl, up2 hbel hb58⟩
end
end Go.Proofs.YtmnmloebomlllaaDoor
