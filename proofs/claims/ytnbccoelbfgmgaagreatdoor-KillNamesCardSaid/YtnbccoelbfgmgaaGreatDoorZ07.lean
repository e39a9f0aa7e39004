import Derived.Test.YtnbccoelbfgmgaaGreatDoorZ06
import Derived.Test.YtnbccoelbfgmgaaGreatDoorZ01
import Derived.Test.YtnbccoelbfgmgaaGreatDoorZ02
/- package gap: Insert, any text. -/
namespace Go.Proofs.YtnbccoelbfgmgaaGreatDoor
open Go.RowKit Go.Lib
set_option linter.unusedVariables false
set_option linter.unusedSimpArgs false
theorem gnone1 {w : World} {t g st en : Nat} {B : List Int} {fv : Value} (h : GapW w t g B st en fv) : Calls Tryz.prog 109 #[.pointer (some ⟨t, 0, none⟩)] w fun e w' => e = .returned (.bool false) ∧ w = w' := by
  obtain ⟨c, _, hb⟩ := h.ex
  exact gnone0 hb rfl
structure InsL (w wr : World) (foot : Nat → Prop) (t g' : Nat) (fv : Value) (B0 : List Int) (i en' K : Nat) (s : ByteArray) (ms : List Nat) (Y : List Int) (va : Value) (p : Nat) (pre rest : List Nat) : Prop where
  hp : p ≤ s.size
  ms : ms = pre ++ rest
  rest : charsD (s.data.toList.drop p) = some rest
  it : wr.heap[K]? = some (.stringIter s p)
  gw : ∃ B, GapW wr t g' B (i + pre.length) en' fv ∧ B.take (i + pre.length) = B0.take i ++ pre.map Int.ofNat ∧ B.drop en' = B0.drop en'
  fd : ROwn encI 3 1 0 wr fv Y
  fr : ROwn encI 3 1 (K + 1) wr va (feedsF (1 + i) pre)
  on : Only foot w wr
  sz : K + 1 ≤ wr.heap.size
section
variable {w W wr : World} {foot : Nat → Prop} {t g' i en' K p p' c : Nat} {fv va v' : Value} {B0 Y : List Int} {s : ByteArray} {ms pre rest rest' : List Nat}
/-- A world in which only new blocks have come, and the iterator has moved. -/
theorem InsL.moved (h : InsL w wr foot t g' fv B0 i en' K s ms Y va p pre rest) (hk : ∀ k, k < wr.heap.size → k ≠ K → W.heap[k]? = wr.heap[k]?) (hz : wr.heap.size ≤ W.heap.size) (hon : Only (fun k => k = K) wr W) (hKw : w.heap.size ≤ K) (hnK : t < K ∧ g' < K ∧ (∀ q, fv.ownBlock = some q → q < K)) :
    (∃ B, GapW W t g' B (i + pre.length) en' fv ∧ B.take (i + pre.length) = B0.take i ++ pre.map Int.ofNat ∧ B.drop en' = B0.drop en') ∧ ROwn encI 3 1 0 W fv Y ∧ ROwn encI 3 1 (K + 1) W va (feedsF (1 + i) pre) ∧ Only foot w W ∧ K + 1 ≤ W.heap.size := by
  obtain ⟨B, hg, h1, h2⟩ := h.gw
  have hsz := h.sz
  refine ⟨⟨B, hg.kept (hk _ (by omega) (by omega)) (hk _ (by omega) (by omega)), h1, h2⟩, h.fd.kept (fun q hq => hk q (by have := hnK.2.2 q hq; omega) (by have := hnK.2.2 q hq; omega)),
    h.fr.kept (fun q hq => hk q (h.fr.lt hq) (by have := h.fr.base hq; omega)), h.on.then hon (fun k hk hlt => by omega), by omega⟩
theorem InsL.step {B : List Int} (hd3 : p' ≤ s.size) (hms : ms = pre ++ c :: rest') (hr : charsD (s.data.toList.drop p') = some rest') (hit : W.heap[K]? = some (.stringIter s p'))
    (hg : GapW W t g' B (i + pre.length) en' fv) (h1 : B.take (i + pre.length) = B0.take i ++ pre.map Int.ofNat) (h2 : B.drop en' = B0.drop en') (hfd : ROwn encI 3 1 0 W fv Y) (hfr : ROwn encI 3 1 (K + 1) W v' (feedsF (1 + i) (pre ++ [c])))
    (hon : Only foot w W) (hsz : K + 1 ≤ W.heap.size) (hft : foot t) (hfg : foot g' ∨ w.heap.size ≤ g') (hnK : t < K ∧ g' < K ∧ (∀ q, fv.ownBlock = some q → q < K ∧ q ≠ t ∧ q ≠ g')) (hroom : i + pre.length < en') :
    InsL w (((W.setCell ⟨g', i + pre.length, none⟩ (.int .i32 c)).setCell ⟨t, 1, none⟩ (.int .i64 ((i + pre.length : Nat) + 1))).drew) foot t g' fv B0 i en' K s ms Y v' p' (pre ++ [c]) rest' := by
  have hG1 := hg.setG (j := i + pre.length) (by have := hg.h2; omega) (c : Int)
  have hG2 := hG1.setS (i + (pre.length + 1)) (by omega)
  have hk : ∀ k, k ≠ t → k ≠ g' → (((W.setCell ⟨g', i + pre.length, none⟩ (.int .i32 c)).setCell ⟨t, 1, none⟩ (.int .i64 ((i + pre.length : Nat) + 1))).drew).heap[k]? = W.heap[k]? := fun k k1 k2 =>
    (Below.heap_setCell _ ⟨t, 1, none⟩ _ _ (show k ≠ t from k1)).trans (Below.heap_setCell _ ⟨g', i + pre.length, none⟩ _ _ (show k ≠ g' from k2))
  have hlen : (pre ++ [c]).length = pre.length + 1 := by simp
  have hgh := hg.h2
  refine ⟨hd3, by rw [hms]; simp, hr, (hk K (by omega) (by omega)).trans hit, ⟨B.set (i + pre.length) (c : Int), ?_, ?_, ?_⟩, hfd.kept (fun q hq => hk q (hnK.2.2 q hq).2.1 (hnK.2.2 q hq).2.2), hfr.kept (fun q hq => hk q (by have := hfr.base hq; omega) (by have := hfr.base hq; omega)), ?_, by simpa using hsz⟩
  · rw [hlen]
    have e : ((i + pre.length : Nat) + 1 : Int) = ((i + (pre.length + 1) : Nat) : Int) := by omega
    rw [e]
    exact hG2.kept rfl rfl
  · rw [hlen, show i + (pre.length + 1) = (i + pre.length) + 1 by omega, List.take_succ_eq_append_getElem (by simp; omega), List.take_set_of_le (Nat.le_refl _), h1]
    simp
  · rw [List.drop_set_of_lt (by omega), h2]
  · rcases hfg with hf | hf
    · exact ((hon.setCell (p := ⟨g', i + pre.length, none⟩) hf _).setCell (p := ⟨t, 1, none⟩) hft _).drew
    · exact ((hon.then (T := fun k => k = g') ((Only.refl (fun k => k = g') W).setCell (p := ⟨g', i + pre.length, none⟩) rfl _) (fun k hk hlt => by omega)).setCell (p := ⟨t, 1, none⟩) hft _).drew
end
section
variable {w w' : World} {t g st en : Nat} {fv : Value} {B : List Int} {cs : List Nat}
set_option maxRecDepth 100000 in
set_option maxHeartbeats 4000000 in
theorem ginsert_ok {N : Nat} (hT : Tabs N w) (h : GapX w t g fv B st en cs) (hNf : ∀ k, gapFoot t g fv k → N ≤ k) (s : ByteArray) (hs : s.size ≤ 262144) (hv : (charsD s.data.toList).isSome = true) (p : Nat) (hp1 : 1 ≤ p) (hp2 : p ≤ cs.length + 1) (hfit : cs.length + (chrs s).length ≤ 65536) :
    Calls Tryz.prog 124 #[.pointer (some ⟨t, 0, none⟩), .int .i64 p, .string s] w fun e w' => e = .returned (.int .i64 0) ∧ GapTo w t g fv (insC cs p (chrs s)) w' := by
  have HL := rlenG_chars hv
  have HI := chrs_isN s
  obtain ⟨ms, hms⟩ := Option.isSome_iff_exists.1 hv
  have hcc : chrs s = ms := by unfold chrs; rw [hms]; rfl
  rw [hcc] at HL HI hfit ⊢
  have hvl : vld s = true := by rw [vld_chars]; exact hv
  obtain ⟨n, hnn⟩ : ∃ n, n = ms.length := ⟨_, rfl⟩
  have hlen := h.len
  have h1 := h.gw.h1
  have h2 := h.gw.h2
  rw [← hnn] at HL hfit
  obtain ⟨i, hi⟩ : ∃ i, i + 1 = p := ⟨p - 1, by omega⟩
  obtain ⟨C, hC⟩ : ∃ C, C = cs.length := ⟨_, rfl⟩
  have s1 : IntKind.i64.wrap ((p : Int) - 1) = (i : Int) := by rw [IntWalk.i64_in _ (by omega)]; omega
  have d1 : decide ((p : Int) < 1) = false := decide_eq_false (by omega)
  have d4 : decide ((C : Int) + 1 < (p : Int)) = false := decide_eq_false (by omega)
  have d5 : decide ((65536 : Int) - C < (n : Int)) = false := decide_eq_false (by omega)
  have s4 : IntKind.i64.wrap ((65536 : Int) - C) = (65536 : Int) - C := IntWalk.i64_in _ (by omega)
  have s5 : IntKind.i64.wrap ((C : Int) + 1) = (C : Int) + 1 := IntWalk.i64_in _ (by omega)
  have hgs := fun (w' : World) (hb : Below w.heap.size w w') => gsize (h.r.up hb)
  rw [← hC] at hgs
  have HGS := Lib.hid hgs
  have AA := Lib.hid (⟨hms, hnn, hlen, h1, h2, hfit, hi, hp1, hp2, HI, hcc, hC⟩ : _ ∧ _ ∧ _ ∧ _ ∧ _ ∧ _ ∧ _ ∧ _ ∧ _ ∧ _ ∧ _ ∧ _)
  have H := Lib.hid h
  have HT := Lib.hid hT
  have HN := Lib.hid (gnone1 h.gw)
  have HLQ := Lib.hid HL
  have HNF := Lib.hid hNf
  have HVL := Lib.hid hvl
  clear hv hcc hms HI h hT hnn hlen h1 h2 hfit hi hp1 hp2 hC hgs HL hNf hvl
  go_enter Tryz.func124, Tryz.ntmps124
  go_wp2_with fail
  refine HN.out.mono ?_
  rintro e w' ⟨rfl, rfl⟩
  clear HN
  go_wp2_with fail
  refine (HGS.out w (Below.refl _ _)).mono ?_
  rintro e w1 ⟨rfl, hb1⟩
  have B1 := Lib.hid hb1
  have hV := valid_any s w1 (by omega) (HT.out.up hb1)
  rw [HVL.out] at hV
  have V := Lib.hid hV
  clear hb1 hV
  go_wp2_with fail
  refine V.out.mono ?_
  rintro e w2 ⟨rfl, hb2⟩
  have B2 := Lib.hid (up2 B1.out hb2)
  have hLn := runesLen s w2 (by omega) (HT.out.up B2.out)
  rw [HLQ.out] at hLn
  have V := Lib.hid hLn
  clear hb2 hLn
  go_wp2_with fail
  refine V.out.mono ?_
  rintro e w3 ⟨rfl, hb3⟩
  have B3 := Lib.hid (up2 B2.out hb3)
  clear hb3
  go_wp2_with fail
  refine (HGS.out w3 B3.out).mono ?_
  rintro e w4 ⟨rfl, hb4⟩
  have B4 := Lib.hid (up2 B3.out hb4)
  clear hb4 V d1 d4
  go_wp2_with fail
  refine (gmove_ok (H.out.up B4.out).gw (i := i) (by have := AA.out; omega)).mono ?_
  rintro e w5 ⟨rfl, ho5, hz5, B5, hg5, hl5, ht5⟩
  obtain ⟨G, hG⟩ : ∃ G, G = en - st := ⟨_, rfl⟩
  rw [← hG] at hg5 ht5
  rw [(H.out).txt] at ht5
  have HX5 := Lib.hid (show GapX w5 t g fv B5 i (i + G) cs from ⟨hg5, ((H.out.up B4.out).own).kept (fun k hk => ho5.block k ((H.out.up B4.out).own.lt hk) (fun e => by have := H.out.nf k hk; omega)), H.out.nf, ht5, H.out.cn, H.out.le⟩)
  have O5 := Lib.hid (show Only (gapFoot t g fv) w w5 from (Only.of_below B4.out).trans (ho5.mono (fun k hk => hk.elim .inl (fun h => .inr (.inl h)))))
  have HG := Lib.hid hG
  have HL5 := Lib.hid hl5
  clear ho5 hz5 hg5 hl5 ht5 hG d5 s4
  go_wp2_with fail
  refine (ggrow_any HX5.out.gw (n := n) (by have := AA.out; omega) (by have := AA.out; have := HX5.out.len; omega)).mono ?_
  rintro e w6 ⟨rfl, ho6, g', B6, en', hgg, hg6, hn6, htk, hdr⟩
  have hg'1 : ∀ k, fv.ownBlock = some k → k ≠ t ∧ k ≠ g' := fun k hk => ⟨(H.out.nf k hk).1, by
    have h1 := (H.out.nf k hk).2
    have h2 := HX5.out.own.lt hk
    omega⟩
  have hown6 : ROwn encI 3 1 0 w6 fv (feeds cs) := HX5.out.own.kept (fun k hk => ho6.block k (HX5.out.own.lt hk) (H.out.nf k hk).1)
  have hO6 : Only (gapFoot t g fv) w w6 := O5.out.trans (ho6.mono (fun k hk => .inl hk))
  have hzz : w.heap.size ≤ w5.heap.size := O5.out.size
  have htx : B6.take i ++ B6.drop en' = cs.map Int.ofNat := by rw [htk, hdr]; exact HX5.out.txt
  have hfl : (feeds cs).length ≤ 65536 := by have := feedsF_len cs 1; have := H.out.le; unfold feeds; omega
  have hG6 : gapFoot t g' fv = gapFoot t g' fv := rfl
  have hnew : g' = g ∨ w.heap.size ≤ g' := by omega
  have hBS := bsearch_own hown6 ((feedsF_sorted cs 1).imp (fun h => Int.le_of_lt h)) (by omega) (p : Int)
  have hcn : (feeds cs).countP (fun z => decide (z < (p : Int))) = (feeds (cs.take i)).length := by
    have := feeds_count (cs.take i) (cs.drop i) (p : Int) (by have := AA.out; simp; omega)
    rwa [List.take_append_drop] at this
  obtain ⟨X, hX⟩ : ∃ X, X = feeds cs := ⟨_, rfl⟩
  rw [← hX] at hown6 hfl hBS hcn
  rw [hcn] at hBS
  obtain ⟨i2, hi2⟩ : ∃ i2, i2 = (feeds (cs.take i)).length := ⟨_, rfl⟩
  rw [← hi2] at hBS hcn
  have hi2l : i2 ≤ X.length := by rw [← hcn]; exact List.countP_le_length
  have HQ := Lib.hid (⟨hg'1, hO6, hnew, htx, hfl, hX, hi2, hi2l, hn6⟩ : _ ∧ _ ∧ _ ∧ _ ∧ _ ∧ _ ∧ _ ∧ _ ∧ _)
  have HG6 := Lib.hid hg6
  have HOW6 := Lib.hid hown6
  have HBS := Lib.hid hBS
  clear ho6 hgg htk hdr hzz hG6 hg'1 hO6 hnew htx hfl hX hi2 hi2l hn6 hcn hBS
  obtain ⟨A, cap, rfl, hcp1, hcp2, hrs⟩ := hown6.shape eltI
  clear hrs hown6
  have c3 : w6.cell? ⟨t, 3, none⟩ = some (.slice A X.length cap) := hg6.c3
  clear hg6
  go_wp2_with fail
  refine HBS.out.mono ?_
  rintro e w7 ⟨rfl, hb7⟩
  have HG7 := Lib.hid (HG6.out.up hb7)
  have HOW7 := Lib.hid (HOW6.out.up hb7)
  have B7 := Lib.hid hb7
  have c3 : w7.cell? ⟨t, 3, none⟩ = some (.slice A X.length cap) := HG7.out.c3
  clear hb7 HBS
  go_wp2_with fail
  clear c3
  clear c3
  go_loopw [10] (fun vk wr => ∃ j : Nat, i2 ≤ j ∧ j ≤ X.length ∧ vk = .int .i64 j ∧ GapW wr t g' B6 i en' (.slice A X.length cap) ∧ ROwn encI 3 1 0 wr (.slice A X.length cap) (bump X i2 j n) ∧ Only (gapFoot t g (.slice A X.length cap)) w wr ∧ w7.heap.size ≤ wr.heap.size) (fun vk _ => X.length - (intOf vk).toNat)
  case atStart => exact ⟨i2, Nat.le_refl _, HQ.out.2.2.2.2.2.2.2.1, rfl, HG7.out, by rw [bump_start]; exact HOW7.out, HQ.out.2.1.trans (Only.of_below B7.out), Nat.le_refl _⟩
  case round =>
    obtain ⟨j, hj1, hj2, rfl, hgw, how, hon, hsz⟩ := hrel
    have hXl := HQ.out.2.2.2.2.1
    by_cases hlt : j < X.length
    · have hbl : (bump X i2 j (n : Int)).length = X.length := bump_len _ hj1 hj2
      obtain ⟨q, cap', hAq, _, _, _, hq2, hq3, hq4⟩ := how.lies eltI (by omega)
      have hA2 : A = some ⟨q, 0, none⟩ := by injection hAq
      subst hA2
      have hnq := HQ.out.1 q rfl
      have hx := bump_get (n : Int) hj1 hlt
      have c3 : wr.cell? ⟨t, 3, none⟩ = some (.slice (some ⟨q, 0, none⟩) X.length cap) := hgw.c3
      have hcell : wr.cell? ⟨q, j, none⟩ = some (.int .i64 X[j]) := by
        have := hq4 j X[j] 0 (.int .i64 X[j]) hx rfl
        simpa using this
      have d1 : decide (j < X.length) = true := decide_eq_true hlt
      have hfz : wr.frozen? ⟨q, j, none⟩ = false := hq3 j (by omega)
      have hzb : 1 ≤ X[j] ∧ X[j] ≤ 65537 := by
        have hm : X[j] ∈ feeds cs := by rw [← HQ.out.2.2.2.2.2.1]; exact List.getElem_mem _
        have := feedsF_mem cs 1 X[j] hm
        have := H.out.le
        omega
      have hst := bump_step (n : Int) hj1 hlt
      obtain ⟨z, hz⟩ : ∃ z, z = X[j] := ⟨_, rfl⟩
      rw [← hz] at hx hcell hzb hst
      have s1 : IntKind.i64.wrap (z + (n : Int)) = z + n := IntWalk.i64_in _ (by have := AA.out; omega)
      have s2 : IntKind.i64.wrap ((j : Int) + 1) = ((j + 1 : Nat) : Int) := by rw [IntWalk.i64_in _ (by omega)]; omega
      have RR := Lib.hid (⟨hgw, how, hon, hsz, hx, hbl, hnq, hst, hj1, hlt⟩ : _ ∧ _ ∧ _ ∧ _ ∧ _ ∧ _ ∧ _ ∧ _ ∧ _ ∧ _)
      clear hgw how hon hsz hx hbl hnq hst hj1 hq4 hq3 hAq hXl hzb hz hj2 hcp1 hcp2
      go_wp2_with fail
      go_roundw
      case rel =>
        obtain ⟨hgw, how, hon, hsz, hx, hbl, hnq, hst, hj1, hlt⟩ := RR.out
        refine ⟨j + 1, by omega, by omega, by first | rfl | go_num, ?_, ?_, ?_, ?_⟩
        · exact (hgw.only ((Only.refl (fun k => k = q) wr).setCell (p := ⟨q, j, none⟩) rfl _) (fun e => hnq.1 e.symm) (fun e => hnq.2 e.symm) : GapW _ _ _ _ _ _ _)
        · rw [← hst]
          rw [← hbl] at how ⊢
          have := how.put eltI (i := j) (j := 0) (x := z) (y := z + n) (u := .int .i64 (z + n)) hx (by omega) rfl
          simpa using this
        · exact hon.setCell (p := ⟨q, j, none⟩) (.inr (.inr rfl)) _
        · simpa using hsz
      case measure => simp [intOf]; omega
    · have hje : j = X.length := by omega
      subst hje
      obtain ⟨wA, rfl⟩ : ∃ x, x = wr := ⟨_, rfl⟩
      have d1 : decide (X.length < X.length) = false := decide_eq_false (by omega)
      have c3 : wA.cell? ⟨t, 3, none⟩ = some (.slice A X.length cap) := hgw.c3
      have c1 : wA.cell? ⟨t, 1, none⟩ = some (.int .i64 i) := hgw.c1
      rw [bump_end] at how
      have RR := Lib.hid (⟨hgw, how, hon, hsz⟩ : _ ∧ _ ∧ _ ∧ _)
      clear hgw how hon hj1 hj2 hlt hcp1 hcp2 hsz
      go_wp2_with fail
      clear c1 c3 d1
      have hit := wA.iter_heap s 0
      have hsz : (wA.iter s 0).heap.size = wA.heap.size + 1 := by simp [World.iter]
      have HBi := Lib.hid (show Below wA.heap.size wA (wA.iter s 0) from below1 wA _)
      have hI0 : InsL w (wA.iter s 0) (gapFoot t g (.slice A X.length cap)) t g' (.slice A X.length cap) B6 i en' wA.heap.size s ms (X.take i2 ++ (X.drop i2).map (fun z => z + (n : Int))) (.slice none 0 0) 0 [] ms := by
        obtain ⟨hgw, how, hon, hsz'⟩ := RR.out
        exact ⟨Nat.zero_le _, rfl, by simpa using AA.out.1, hit, ⟨B6, hgw.up HBi.out, by simp, rfl⟩, how.up HBi.out, ROwn.nil _ _, hon.trans (Only.of_below HBi.out), by omega⟩
      have hft : gapFoot t g (.slice A X.length cap) t := .inl rfl
      have hfg : gapFoot t g (.slice A X.length cap) g' ∨ w.heap.size ≤ g' := HQ.out.2.2.1.elim (fun e => .inl (.inr (.inl e))) .inr
      have hKw : w.heap.size ≤ wA.heap.size := RR.out.2.2.1.size
      have hnK : t < wA.heap.size ∧ g' < wA.heap.size ∧ (∀ q, (Value.slice A X.length cap).ownBlock = some q → q < wA.heap.size ∧ q ≠ t ∧ q ≠ g') := ⟨RR.out.1.ltT, RR.out.1.ltG, fun q hq => ⟨RR.out.2.1.lt hq, HQ.out.1 q hq⟩⟩
      generalize wA.iter s 0 = W0 at *
      have hI0' := Lib.hid hI0
      have K8 := Lib.hid (⟨hft, hfg, hKw, hnK⟩ : _ ∧ _ ∧ _ ∧ _)
      clear hI0 hft hfg hKw hnK hit hsz
      go_loopw [11, 13] (fun va vb w8 => ∃ (p : Nat) (pre rest : List Nat), InsL w w8 (gapFoot t g (.slice A X.length cap)) t g' (.slice A X.length cap) B6 i en' wA.heap.size s ms (X.take i2 ++ (X.drop i2).map (fun z => z + (n : Int))) va p pre rest) (fun _ _ w8 => s.size - w8.iterPos wA.heap.size)
      case atStart => exact ⟨0, [], ms, hI0'.out⟩
      case round =>
        obtain ⟨p', pre, rest, hI⟩ := hrel
        obtain ⟨hft, hfg, hKw, hnK⟩ := K8.out
        have HW := Lib.hid RR.out.2.2.2
        clear RR hI0' HBi
        generalize wA.heap.size = K at *
        have hip : wr.iterPos K = p' := iterPos_of hI.it
        rw [hip]
        have hle : pre.length + rest.length = n := by rw [AA.out.2.1, hI.ms, List.length_append]
        by_cases hlt : p' < s.size
        · obtain ⟨c, rest', hrc, hd1, hd2, hd3, hd4, hc⟩ := decode_step hlt hI.rest
          subst hrc
          have hnx := fun ty => Lib.run_next_any_at (P := Tryz.prog) wr K s p' ty hI.it hlt
          rw [hd1] at hnx
          have hit1 := Lib.iterAt_heap wr K s p' (p' + (Utf8.decode s p').2) hI.it
          have hoth := fun j (hj : j ≠ K) => Lib.iterAt_other wr K j s (p' + (Utf8.decode s p').2) hj
          have hsz1 := Lib.iterAt_size wr K s (p' + (Utf8.decode s p').2)
          have hon1 : Only (fun k => k = K) wr (wr.iterAt K s (p' + (Utf8.decode s p').2)) := ⟨rfl, rfl, rfl, by rw [hsz1]; exact Nat.le_refl _, fun j _ hj => hoth j hj⟩
          have hpp : p' < p' + (Utf8.decode s p').2 := by omega
          clear hd1 hd2
          generalize p' + (Utf8.decode s p').2 = p2 at *
          generalize wr.iterAt K s p2 = w1 at *
          simp only [List.length_cons] at hle
          obtain ⟨⟨B1, hg1, ht1, hr1⟩, hfd1, hfr1, hof1, hsz2⟩ := hI.moved (W := w1) (fun k _ hk => hoth k hk) (by omega) hon1 hKw ⟨hnK.1, hnK.2.1, fun q hq => (hnK.2.2 q hq).1⟩
          obtain ⟨cx, hcx, c0⟩ := hg1.c0
          have c1 : w1.cell? ⟨t, 1, none⟩ = some (.int .i64 ((i + pre.length : Nat) : Int)) := hg1.c1
          have hroom : i + pre.length < en' := by have := HQ.out.2.2.2.2.2.2.2.2; omega
          have hpos := HQ.out
          have hfe : (feedsF (1 + i) pre).length ≤ 65536 := by have := feedsF_len pre (1 + i); have := AA.out; omega
          obtain ⟨S, hS⟩ : ∃ S, S = i + pre.length := ⟨_, rfl⟩
          have hms := hI.ms
          have HMS := Lib.hid hms
          clear hms hpos
          rw [← hS] at c1
          have s1 : IntKind.i64.wrap ((S : Int) + 1) = ((S + 1 : Nat) : Int) := by rw [IntWalk.i64_in _ (by have := AA.out; have := hg1.lim; have := hg1.h2; omega)]; omega
          by_cases h10 : c = 10
          · have d10 : ((c : Int) == (10 : Int)) = true := by simp [h10]
            have n10 : (c = 10) = True := eq_true h10
            obtain ⟨v', w2, happ, hown2, hb2, hon2, _⟩ := append_elem eltI hfr1 hsz2 (((S + 1 : Nat) : Int)) (by omega) (by omega)
            have HP : Hid (∀ ty, (Builtin.append_ #[53, 53] ty #[u11, .slice (some ⟨w1.heap.size, 0, none⟩) 1 1]).run Tryz.prog (w1.alloc (.cells #[.int .i64 (((S + 1 : Nat) : Int))] 3)) = .ok v' w2) := Lib.hid happ
            clear happ
            have HQQ := Lib.hid (⟨hown2, hb2, hon2, hd3, hd4, hit1, hg1, ht1, hr1, hfd1, hof1, hsz2, hroom, hS, hfe, hft, hfg, hKw, hnK, hpp, hlt⟩ : _ ∧ _ ∧ _ ∧ _ ∧ _ ∧ _ ∧ _ ∧ _ ∧ _ ∧ _ ∧ _ ∧ _ ∧ _ ∧ _ ∧ _ ∧ _ ∧ _ ∧ _ ∧ _ ∧ _ ∧ _)
            clear hown2 hb2 hon2 hd3 hd4 hit1 hg1 ht1 hr1 hfd1 hof1 hsz2 hroom hS hfe hft hfg hKw hnK hpp hlt hfr1 hoth hsz1 hon1 hI hip hle hc h10
            go_wp2_with (at_builtin; refine wpList_app_run (v := u11) (u := .slice (some ⟨w1.heap.size, 0, none⟩) 1 1) rfl _ _ _ rfl rfl rfl HP.out ?_)
            obtain ⟨hown2, hb2, hon2, hd3, hd4, hit1, hg1, ht1, hr1, hfd1, hof1, hsz2, hroom, hS, hfe, hft, hfg, hKw, hnK, hpp, hlt⟩ := HQQ.out
            clear HP HQQ c0 c1
            have hk2 : ∀ k, k ≤ K → w2.heap[k]? = w1.heap[k]? := fun k hk => hb2.block k (by omega)
            have hg2 : GapW w2 t g' B1 (i + pre.length) en' (.slice A X.length cap) := hg1.kept (hk2 _ (by omega)) (hk2 _ (by omega))
            have hfd2 := hfd1.kept (fun q hq => hk2 q (by have := hnK.2.2 q hq; omega))
            have hof2 : Only (gapFoot t g (.slice A X.length cap)) w w2 := hof1.then (T := fun k => K + 1 ≤ k) ⟨hb2.os, hb2.tape, hb2.output, hb2.size, fun j hj hj2 => hb2.block j (by omega)⟩ (fun j hj hj2 => by omega)
            have hsz2' : K + 1 ≤ w2.heap.size := Nat.le_trans hsz2 hb2.size
            have hit2 := (hk2 K (Nat.le_refl _)).trans hit1
            have hfr3 : ROwn encI 3 1 (K + 1) w2 v' (feedsF (1 + i) (pre ++ [c])) := by
              rw [feedsF_snoc, if_pos (by have := eq_of_beq d10; omega)]
              have e : ((1 + i + pre.length : Nat) : Int) = ((S + 1 : Nat) : Int) := by omega
              rw [e]; exact hown2
            obtain ⟨cx, hcx, c0⟩ := hg2.c0
            have c1 : w2.cell? ⟨t, 1, none⟩ = some (.int .i64 (S : Int)) := by rw [hS]; exact hg2.c1
            have e1 : S < B1.length := by have := hg2.h2; omega
            obtain ⟨zz, hzz⟩ : ∃ zz, B1[S]? = some zz := ⟨_, List.getElem?_eq_getElem e1⟩
            have q2 := hg2.at_ hzz
            have qf := hg2.fzG S
            have qf1 := hg2.fzT 1
            have htg := hg2.tg
            have hgt := htg.symm
            have HREL := Lib.hid (InsL.step hd3 HMS.out hd4 hit2 hg2 ht1 hr1 hfd2 hfr3 hof2 hsz2' hft hfg ⟨hnK.1, hnK.2.1, hnK.2.2⟩ hroom)
            rw [← hS] at HREL
            have HIT := Lib.hid hit2
            have HNK := Lib.hid hnK
            have HPP := Lib.hid (⟨hpp, hlt, hd3⟩ : _ ∧ _ ∧ _)
            clear hzz hlt hd3 hd4 hit1 hit2 hpp hg1 hg2 ht1 hr1 hfd1 hfd2 hof1 hof2 hsz2 hsz2' hroom hfe hfr3 hk2 hown2 hb2 hon2 hft hfg hKw hnK hS
            go_wp2_with fail
            go_region
            go_wp2_with fail
            go_roundw
            case rel => exact ⟨_, _, _, HREL.out⟩
            case measure =>
              obtain ⟨hpp, hlt, hd3⟩ := HPP.out
              have e : (((w2.setCell ⟨g', S, none⟩ (.int .i32 c)).setCell ⟨t, 1, none⟩ (.int .i64 ((S + 1 : Nat) : Int))).drew).iterPos K = p2 := iterPos_of (by
                exact ((Below.heap_setCell _ ⟨t, 1, none⟩ _ _ (show K ≠ t by have := HNK.out; omega)).trans (Below.heap_setCell _ ⟨g', S, none⟩ _ _ (show K ≠ g' by have := HNK.out; omega))).trans HIT.out)
              first
              | (rw [e]; omega)
              | (have e2 := e; simp only [Int.natCast_add, Int.natCast_one] at e2; rw [e2]; omega)
          · have d10 : ((c : Int) == (10 : Int)) = false := by simp; omega
            have n10 : (c = 10) = False := eq_false h10
            have hfr3 : ROwn encI 3 1 (K + 1) w1 u11 (feedsF (1 + i) (pre ++ [c])) := by
              rw [feedsF_snoc, if_neg h10, List.append_nil]; exact hfr1
            have e1 : S < B1.length := by have := hg1.h2; omega
            obtain ⟨zz, hzz⟩ : ∃ zz, B1[S]? = some zz := ⟨_, List.getElem?_eq_getElem e1⟩
            have q2 := hg1.at_ hzz
            have qf := hg1.fzG S
            have qf1 := hg1.fzT 1
            have htg := hg1.tg
            have hgt := htg.symm
            have HREL := Lib.hid (InsL.step hd3 HMS.out hd4 hit1 hg1 ht1 hr1 hfd1 hfr3 hof1 hsz2 hft hfg ⟨hnK.1, hnK.2.1, hnK.2.2⟩ hroom)
            rw [← hS] at HREL
            have HIT := Lib.hid hit1
            have HNK := Lib.hid hnK
            have HPP := Lib.hid (⟨hpp, hlt, hd3⟩ : _ ∧ _ ∧ _)
            clear hzz hI hip hle hlt hd3 hd4 hc hit1 hoth hsz1 hon1 hpp hg1 ht1 hr1 hfd1 hfr1 hof1 hsz2 hroom hfe hfr3 hft hfg hKw hnK h10 hS
            go_wp2_with fail
            go_region
            go_wp2_with fail
            go_roundw
            case rel => exact ⟨_, _, _, HREL.out⟩
            case measure =>
              obtain ⟨hpp, hlt, hd3⟩ := HPP.out
              have e : (((w1.setCell ⟨g', S, none⟩ (.int .i32 c)).setCell ⟨t, 1, none⟩ (.int .i64 ((S + 1 : Nat) : Int))).drew).iterPos K = p2 := iterPos_of (by
                exact ((Below.heap_setCell _ ⟨t, 1, none⟩ _ _ (show K ≠ t by have := HNK.out; omega)).trans (Below.heap_setCell _ ⟨g', S, none⟩ _ _ (show K ≠ g' by have := HNK.out; omega))).trans HIT.out)
              first
              | (rw [e]; omega)
              | (have e2 := e; simp only [Int.natCast_add, Int.natCast_one] at e2; rw [e2]; omega)
        · have hp2 : p' = s.size := by have := hI.hp; omega
          have hrn : rest = [] := by
            have h3 : s.data.toList.drop p' = [] := List.drop_eq_nil_of_le (by rw [hp2]; simp)
            have h4 := hI.rest
            rw [h3, charsD_nil] at h4
            cases h4; rfl
          subst hrn
          have hms := hI.ms
          rw [List.append_nil] at hms
          obtain rfl : pre = ms := hms.symm
          have hnx := fun ty => Lib.run_next_end_at (P := Tryz.prog) wr K s p' ty hI.it hlt
          obtain ⟨B1, hg1, ht1, hr1⟩ := hI.gw
          have hfd := hI.fd
          have hfr := hI.fr
          have hon := hI.on
          have hsz := hI.sz
          have hXl := HQ.out.2.2.2.2.1
          have hi2l := HQ.out.2.2.2.2.2.2.2.1
          have hXb : (X.take i2 ++ (X.drop i2).map (fun z => z + (n : Int))).length = X.length := by simp; omega
          have hfl : (feedsF (1 + i) pre).length ≤ n := by have := feedsF_len pre (1 + i); have := AA.out; omega
          have hn6 : n ≤ 65536 := by have := AA.out; omega
          have hIns := sinsert_own (i := i2) hfd hfr (fun q hq e => by have := hnK.2.2 q hq; have := hfr.base e; omega) (by rw [hXb]; exact hi2l) (by omega) (Nat.zero_le _)
          have c3 : wr.cell? ⟨t, 3, none⟩ = some (.slice A X.length cap) := hg1.c3
          have f3 := hg1.fzT 3
          have HIns := Lib.hid hIns
          have RR := Lib.hid (⟨hg1, ht1, hr1, hfd, hon, hsz, hft, hfg, hKw, hnK, hXb⟩ : _ ∧ _ ∧ _ ∧ _ ∧ _ ∧ _ ∧ _ ∧ _ ∧ _ ∧ _ ∧ _)
          clear hI hip hle hlt hp2 hms hg1 ht1 hr1 hfd hfr hon hsz hXl hi2l hXb hfl hn6 hIns hft hfg hKw hnK
          go_wp2_with fail
          refine HIns.out.mono ?_
          rintro e w8 ⟨v', rfl, hown8, ho8, hb8⟩
          obtain ⟨hg1, ht1, hr1, hfd, hon, hsz, hft, hfg, hKw, hnK, hXb⟩ := RR.out
          have hb8' : ∀ k, v'.ownBlock = some k → gapFoot t g (.slice A X.length cap) k ∨ w.heap.size ≤ k := fun k hk => (hb8 k hk).elim (fun h => .inl (.inr (.inr h))) (fun h => .inr (by omega))
          have hnt8 : ∀ k, v'.ownBlock = some k → k ≠ t ∧ k ≠ g' := fun k hk => (hb8 k hk).elim (fun h => (hnK.2.2 k h).2) (fun h => by omega)
          have hg8 : GapW w8 t g' B1 (i + pre.length) en' (.slice A X.length cap) := hg1.only ho8 (fun e => (hnK.2.2 t e).2.1 rfl) (fun e => (hnK.2.2 g' e).2.2 rfl)
          have hon8 : Only (gapFoot t g (.slice A X.length cap)) w w8 := hon.trans (ho8.mono (fun k hk => .inr (.inr hk)))
          obtain ⟨A8, c8, rfl, hc81, hc82, hr8⟩ := hown8.shape eltI
          have f3 := hg8.fzT 3
          have c3 := hg8.c3
          have hzl : (List.take i2 (X.take i2 ++ (X.drop i2).map (fun z => z + (n : Int))) ++ feedsF (1 + i) pre ++ List.drop i2 (X.take i2 ++ (X.drop i2).map (fun z => z + (n : Int)))) = feeds (insC cs p pre) := by
            obtain ⟨_, _, _, _, _, hX, hi2, _, _⟩ := HQ.out
            have hpi : p - 1 = i := by have := AA.out; omega
            have hn : n = pre.length := AA.out.2.1
            have hil : (cs.take i).length = i := by have := AA.out; simp; omega
            unfold insC
            rw [hpi, feeds_ins, hil]
            have hsp := feeds_split (cs.take i) (cs.drop i)
            rw [List.take_append_drop, hil, ← hX] at hsp
            have e1 : X.take i2 = feeds (cs.take i) := by rw [hsp, hi2]; simp
            have e2 : X.drop i2 = feedsF (1 + i) (cs.drop i) := by rw [hsp, hi2]; simp
            rw [e1, e2, hn]
            have e3 : i2 = (feeds (cs.take i)).length := hi2
            rw [e3]; simp
          rw [hzl] at hown8 hb8' hnt8
          have HF := Lib.hid (⟨hg8, hon8, hown8, hb8', hnt8, ht1, hr1, hft, hfg⟩ : _ ∧ _ ∧ _ ∧ _ ∧ _ ∧ _ ∧ _ ∧ _ ∧ _)
          rw [hzl]
          clear RR hg1 ht1 hr1 hfd hon hsz hft hfg hKw hnK hXb hb8 ho8 hg8 hon8 hown8 hb8' hnt8 hc81 hc82 hr8 hzl
          go_wp2_with fail
          go_ret
          obtain ⟨hg8, hon8, hown8, hb8', hnt8, ht1, hr1, hft, hfg⟩ := HF.out
          refine ⟨rfl, hon8.setCell (p := ⟨t, 3, none⟩) hft _, g', _, B1, i + pre.length, en', ⟨hg8.setF _, hown8.kept (fun q hq => Below.heap_setCell _ _ _ _ (hnt8 q hq).1), hnt8, ?_, ?_, ?_⟩, ?_⟩
          · have hpi : p - 1 = i := by have := AA.out; omega
            have htx := HQ.out.2.2.2.1
            rw [ht1, hr1]
            unfold insC
            rw [hpi, List.map_append, List.map_append, List.append_assoc, List.append_assoc]
            have hil : (B6.take i).length = i := by have := hg8.h1; have := hg8.h2; have e := congrArg List.length ht1; simp at e; simp; omega
            have e1 : (cs.map Int.ofNat).take i = B6.take i := by rw [← htx, List.take_append_of_le_length (by omega), List.take_of_length_le (by omega)]
            have e2 : (cs.map Int.ofNat).drop i = B6.drop en' := by rw [← htx, List.drop_append, List.drop_eq_nil_of_le (by omega), hil]; simp
            rw [List.map_take, List.map_drop, e1, e2]
          · intro c hc
            unfold insC at hc
            rw [List.mem_append, List.mem_append] at hc
            rcases hc with (hc | hc) | hc
            · exact H.out.cn c (List.mem_of_mem_take hc)
            · exact AA.out.2.2.2.2.2.2.2.2.2.1 c hc
            · exact H.out.cn c (List.mem_of_mem_drop hc)
          · have := AA.out
            unfold insC
            simp only [List.length_append, List.length_take, List.length_drop]
            omega
          · intro k hk
            rcases hk with rfl | rfl | hk
            · exact .inl hft
            · exact hfg
            · exact hb8' k hk
end
end Go.Proofs.YtnbccoelbfgmgaaGreatDoor
/- package undo: Add of the three changes that an insertion in a new buffer logs. -/
namespace Go.Proofs.YtnbccoelbfgmgaaGreatDoor
open Go.RowKit
set_option linter.unusedVariables false
set_option linter.unusedSimpArgs false
theorem eltC : Elt chC 113 119 9 80 (chV (0, 0, 0)) := ⟨Tryz.underlying113, by kernel_rfl, rfl, by omega, fun _ => rfl, fun x u hu => by simp at hu; rcases hu with rfl | rfl | rfl | rfl | rfl | rfl | rfl | rfl | rfl <;> rfl⟩
section
variable {w w' : World} {N l B : Nat}
set_option maxRecDepth 100000 in
set_option maxHeartbeats 2000000 in
theorem uaddA {f : Value} (hR : Rules N w) (hB : B ≤ w.heap.size) (hNB : N ≤ B) (hlB : l < B) (hNl : N ≤ l) (h : Blk w l 173 (lgC f (.slice none 0 0) 0 0)) :
    Calls Tryz.prog 191 #[.pointer (some ⟨l, 0, none⟩), chV (6, 0, 0)] w fun e w' => e = .returned (.int .i64 0) ∧ ∃ v', ROwn chC 119 9 B w' v' ([] ++ [(6, 0, 0)]) ∧ Blk w' l 173 (lgC f v' 1 1) ∧ Only (fun k => k = l ∨ B ≤ k) w w' := by
  have hv : ROwn chC 119 9 B w (.slice none 0 0) [] := ROwn.nil _ _
  have hbx := below1 w (.cells #[.int .i64 6, .int .i64 0, .int .i64 0, .int .i64 0, .int .i64 0, .string ⟨#[]⟩, .int .i64 0, .int .i64 0, .bool false] 119)
  have hbk := Blk.made w 119 #[.int .i64 6, .int .i64 0, .int .i64 0, .int .i64 0, .int .i64 0, .string ⟨#[]⟩, .int .i64 0, .int .i64 0, .bool false]
  have hl0 := h.lt
  have H := Lib.hid (h.up hbx)
  have HV := Lib.hid (hv.up hbx)
  have HR := Lib.hid (hR.up hbx)
  have HBX := Lib.hid hbx
  have HBK := Lib.hid hbk
  clear h hv hR hbk
  go_enter Tryz.func191, Tryz.ntmps191
  go_wp2_with fail
  generalize w.alloc (.cells #[.int .i64 6, .int .i64 0, .int .i64 0, .int .i64 0, .int .i64 0, .string ⟨#[]⟩, .int .i64 0, .int .i64 0, .bool false] 119) = W at *
  refine (unone _ _ _ _ H.out).mono ?_
  rintro e w' ⟨rfl, rfl⟩
  have b0 := HBK.out.cell (j := 0) rfl
  have b1 := HBK.out.cell (j := 1) rfl
  have b2 := HBK.out.cell (j := 2) rfl
  have b3 := HBK.out.cell (j := 3) rfl
  have b4 := HBK.out.cell (j := 4) rfl
  have b5 := HBK.out.cell (j := 5) rfl
  have b6 := HBK.out.cell (j := 6) rfl
  have b7 := HBK.out.cell (j := 7) rfl
  have b8 := HBK.out.cell (j := 8) rfl
  go_wp2_with fail
  refine (ucheck6 HR.out).mono ?_
  rintro e w1 ⟨rfl, hb1⟩
  have H1 := Lib.hid (H.out.up hb1)
  have HV1 := Lib.hid (HV.out.up hb1)
  have HBX1 := Lib.hid (up2 HBX.out hb1)
  have HBK1 := Lib.hid (HBK.out.up hb1)
  clear b0 b1 b2 b3 b4 b5 b6 b7 b8 hb1 H HV HBX HBK HR
  have b0 := HBK1.out.cell (j := 0) rfl
  have b1 := HBK1.out.cell (j := 1) rfl
  have b2 := HBK1.out.cell (j := 2) rfl
  have b3 := HBK1.out.cell (j := 3) rfl
  have b4 := HBK1.out.cell (j := 4) rfl
  have b5 := HBK1.out.cell (j := 5) rfl
  have b6 := HBK1.out.cell (j := 6) rfl
  have b7 := HBK1.out.cell (j := 7) rfl
  have b8 := HBK1.out.cell (j := 8) rfl
  have l2 := H1.out.cell (j := 2) rfl
  go_wp2_with fail
  go_region
  go_wp2_with fail
  refine (uprice 6 0 0 (by simp)).mono ?_
  rintro e w2 ⟨rfl, hb2⟩
  have hb2' : Below w1.heap.size w1 w2 := up2 ((Below.refl _ w1).drew) hb2
  have H2 := Lib.hid (H1.out.up hb2')
  have HV2 := Lib.hid (HV1.out.up hb2')
  have HBX2 := Lib.hid (up2 HBX1.out hb2')
  have HBK2 := Lib.hid (HBK1.out.up hb2')
  clear b0 b1 b2 b3 b4 b5 b6 b7 b8 hb2 hb2' H1 HV1 HBX1 HBK1 l2
  have l5 := H2.out.cell (j := 5) rfl
  go_wp2_with fail
  obtain ⟨VV, hVV⟩ : ∃ VV : Value, VV = (.slice none 0 0) := ⟨_, rfl⟩
  have hVB : ∀ k, VV.ownBlock = some k → B ≤ k ∧ k < w.heap.size := by
    intro k hk
    subst hVV
    simp [Value.ownBlock] at hk
    skip
  obtain ⟨v', w3, happ, hown3, hb3, ho3, hblk3⟩ := append_elem eltC (B := B) (w := w2.drew) (hVV ▸ (HV2.out.up ((Below.refl _ w2).drew)) : ROwn chC 119 9 B w2.drew VV []) (Nat.le_trans hB HBX2.out.size) (6, 0, 0) (by simp) (by omega)
  have HP := Lib.hid happ
  have HO3 : Hid (Only (fun k => VV.ownBlock = some k) w2 w3) := Lib.hid (((Only.refl _ w2).drew).trans ho3)
  have hon : Only (fun k => VV.ownBlock = some k) w w3 := (Only.of_below HBX2.out).trans HO3.out
  have HON := Lib.hid hon
  have hk3 : Blk w3 l 173 _ := H2.out.only HO3.out (fun hk => by have := (hVB l hk).1; omega)
  have HK3 := Lib.hid hk3
  have C2 : ∀ x : OnW (fun k => VV.ownBlock = some k) w2, x.w.cell? ⟨l, 2, none⟩ = some (.slice none 0 0) := fun x => (H2.out.only x.on (fun hk => by have := (hVB l hk).1; omega)).cell (j := 2) rfl
  have CB : ∀ x : OnW (fun k => VV.ownBlock = some k) w2, Blk x.w w.heap.size 119 _ := fun x => HBK2.out.only x.on (fun hk => by have := (hVB _ hk).2; omega)
  have b0 := fun x => (CB x).cell (j := 0) rfl
  have b1 := fun x => (CB x).cell (j := 1) rfl
  have b2 := fun x => (CB x).cell (j := 2) rfl
  have b3 := fun x => (CB x).cell (j := 3) rfl
  have b4 := fun x => (CB x).cell (j := 4) rfl
  have b5 := fun x => (CB x).cell (j := 5) rfl
  have b6 := fun x => (CB x).cell (j := 6) rfl
  have b7 := fun x => (CB x).cell (j := 7) rfl
  have b8 := fun x => (CB x).cell (j := 8) rfl
  clear CB happ ho3 hon hk3 hb3
  refine wp_region_mixO (fun k => VV.ownBlock = some k) 10 (.one [0, 1, 2, 3, 4, 5] 6 (.one [] 7 (.done [8, 9]))) (by kernel_rfl) (fun c d v a w h => by cases d <;> exact h) (by kernel_rfl) ?_
  simp only [wpMixT, pk_nil, pk_cons, pushAt_zero, pushAt_succ, List.drop_succ_cons, List.drop_zero]
  repeat (go_big_quiet_step (fail))
  refine wpQuiet_nil ?_
  clear b0 b1 b2 b3 b4 b5 b6 b7 b8
  subst hVV
  go_wp2_with fail
  refine thenQ_normal ⟨⟨⟨_, (Only.refl _ w2).drew.alloc _⟩, rfl⟩, ?_⟩
  refine wpQuiet_nil ?_
  refine wpList_app_run rfl _ _ _ rfl rfl rfl HP.out ?_
  go_wp2_with fail
  refine thenQ_normal ⟨⟨⟨_, HO3.out⟩, rfl⟩, ?_⟩
  repeat (go_big_quiet_step (fail))
  refine wpQuiet_nil ?_
  clear C2
  have HOW := Lib.hid hown3
  obtain ⟨A', cap', rfl, _, _, _⟩ := hown3.shape eltC
  clear hown3
  have f2 := HK3.out.fz 2
  have k2 := HK3.out.cell (j := 2) rfl
  have hsw : w.heap.size ≤ w3.heap.size := HON.out.size
  have hk4 := HK3.out.set (j := 2) (by simp) (.slice A' 1 cap')
  have HW4 := Lib.hid (HOW.out.kept (w' := w3.setCell ⟨l, 2, none⟩ (.slice A' 1 cap')) (fun g hg => Below.heap_setCell _ _ _ _ (by have := HOW.out.base hg; simp only []; omega)))
  have HO4 := Lib.hid ((HON.out.mono (T := fun k => k = l ∨ B ≤ k) (fun k hk => .inr (hVB k hk).1)).setCell (p := ⟨l, 2, none⟩) (.inl rfl) (.slice A' 1 cap'))
  have HK4 := Lib.hid hk4
  clear hk4
  go_wp2_with fail
  generalize w3.setCell ⟨l, 2, none⟩ (.slice A' 1 cap') = w4 at *
  have m4 := HK4.out.cell (j := 4) rfl
  have m5 := HK4.out.cell (j := 5) rfl
  have f4 := HK4.out.fz 4
  have f5 := HK4.out.fz 5
  go_region
  go_wp2_with fail
  go_ret
  have hk6 := (HK4.out.set (j := 4) (by simp) (.int .i64 1)).set (j := 5) (by simp) (.int .i64 1)
  refine ⟨rfl, _, ?_, hk6, ((HO4.out.setCell (p := ⟨l, 4, none⟩) (.inl rfl) (.int .i64 1)).setCell (p := ⟨l, 5, none⟩) (.inl rfl) (.int .i64 1)).drew⟩
  exact HW4.out.kept (fun g hg => by
    have h1 := HOW.out.base hg
    exact (Below.heap_setCell (w4.setCell ⟨l, 4, none⟩ (.int .i64 1)) ⟨l, 5, none⟩ (.int .i64 1) g (by simp only []; omega)).trans (Below.heap_setCell w4 ⟨l, 4, none⟩ (.int .i64 1) g (by simp only []; omega)))
set_option maxRecDepth 100000 in
set_option maxHeartbeats 2000000 in
theorem uaddB {f v : Value} (hR : Rules N w) (hB : B ≤ w.heap.size) (hNB : N ≤ B) (hlB : l < B) (hNl : N ≤ l) (hv : ROwn chC 119 9 B w v [(6, 0, 0)]) (h : Blk w l 173 (lgC f v 1 1)) :
    Calls Tryz.prog 191 #[.pointer (some ⟨l, 0, none⟩), chV (4, 1, 0)] w fun e w' => e = .returned (.int .i64 0) ∧ ∃ v', ROwn chC 119 9 B w' v' ([(6, 0, 0)] ++ [(4, 1, 0)]) ∧ Blk w' l 173 (lgC f v' 2 2) ∧ Only (fun k => k = l ∨ B ≤ k) w w' := by
  obtain ⟨g, cap, rfl, hcap1, hcap2, hgB, hgl, _, hat⟩ := hv.lies eltC (by simp)
  clear hat
  have hbx := below1 w (.cells #[.int .i64 4, .int .i64 1, .int .i64 0, .int .i64 0, .int .i64 0, .string ⟨#[]⟩, .int .i64 0, .int .i64 0, .bool false] 119)
  have hbk := Blk.made w 119 #[.int .i64 4, .int .i64 1, .int .i64 0, .int .i64 0, .int .i64 0, .string ⟨#[]⟩, .int .i64 0, .int .i64 0, .bool false]
  have hl0 := h.lt
  have H := Lib.hid (h.up hbx)
  have HV := Lib.hid (hv.up hbx)
  have HR := Lib.hid (hR.up hbx)
  have HBX := Lib.hid hbx
  have HBK := Lib.hid hbk
  clear h hv hR hbk
  go_enter Tryz.func191, Tryz.ntmps191
  go_wp2_with fail
  generalize w.alloc (.cells #[.int .i64 4, .int .i64 1, .int .i64 0, .int .i64 0, .int .i64 0, .string ⟨#[]⟩, .int .i64 0, .int .i64 0, .bool false] 119) = W at *
  refine (unone _ _ _ _ H.out).mono ?_
  rintro e w' ⟨rfl, rfl⟩
  have b0 := HBK.out.cell (j := 0) rfl
  have b1 := HBK.out.cell (j := 1) rfl
  have b2 := HBK.out.cell (j := 2) rfl
  have b3 := HBK.out.cell (j := 3) rfl
  have b4 := HBK.out.cell (j := 4) rfl
  have b5 := HBK.out.cell (j := 5) rfl
  have b6 := HBK.out.cell (j := 6) rfl
  have b7 := HBK.out.cell (j := 7) rfl
  have b8 := HBK.out.cell (j := 8) rfl
  go_wp2_with fail
  refine (ucheck4 1 (by omega) (by omega) HR.out).mono ?_
  rintro e w1 ⟨rfl, hb1⟩
  have H1 := Lib.hid (H.out.up hb1)
  have HV1 := Lib.hid (HV.out.up hb1)
  have HBX1 := Lib.hid (up2 HBX.out hb1)
  have HBK1 := Lib.hid (HBK.out.up hb1)
  clear b0 b1 b2 b3 b4 b5 b6 b7 b8 hb1 H HV HBX HBK HR
  have b0 := HBK1.out.cell (j := 0) rfl
  have b1 := HBK1.out.cell (j := 1) rfl
  have b2 := HBK1.out.cell (j := 2) rfl
  have b3 := HBK1.out.cell (j := 3) rfl
  have b4 := HBK1.out.cell (j := 4) rfl
  have b5 := HBK1.out.cell (j := 5) rfl
  have b6 := HBK1.out.cell (j := 6) rfl
  have b7 := HBK1.out.cell (j := 7) rfl
  have b8 := HBK1.out.cell (j := 8) rfl
  have l2 := H1.out.cell (j := 2) rfl
  go_wp2_with fail
  go_region
  go_wp2_with fail
  refine (uprice 4 1 0 (by simp)).mono ?_
  rintro e w2 ⟨rfl, hb2⟩
  have hb2' : Below w1.heap.size w1 w2 := up2 ((Below.refl _ w1).drew) hb2
  have H2 := Lib.hid (H1.out.up hb2')
  have HV2 := Lib.hid (HV1.out.up hb2')
  have HBX2 := Lib.hid (up2 HBX1.out hb2')
  have HBK2 := Lib.hid (HBK1.out.up hb2')
  clear b0 b1 b2 b3 b4 b5 b6 b7 b8 hb2 hb2' H1 HV1 HBX1 HBK1 l2
  have l5 := H2.out.cell (j := 5) rfl
  go_wp2_with fail
  obtain ⟨VV, hVV⟩ : ∃ VV : Value, VV = (.slice (some ⟨g, 0, none⟩) 1 cap) := ⟨_, rfl⟩
  have hVB : ∀ k, VV.ownBlock = some k → B ≤ k ∧ k < w.heap.size := by
    intro k hk
    subst hVV
    simp [Value.ownBlock] at hk
    exact hk ▸ ⟨hgB, hgl⟩
  obtain ⟨v', w3, happ, hown3, hb3, ho3, hblk3⟩ := append_elem eltC (B := B) (w := w2.drew) (hVV ▸ (HV2.out.up ((Below.refl _ w2).drew)) : ROwn chC 119 9 B w2.drew VV [(6, 0, 0)]) (Nat.le_trans hB HBX2.out.size) (4, 1, 0) (by simp) (by omega)
  have HP := Lib.hid happ
  have HO3 : Hid (Only (fun k => VV.ownBlock = some k) w2 w3) := Lib.hid (((Only.refl _ w2).drew).trans ho3)
  have hon : Only (fun k => VV.ownBlock = some k) w w3 := (Only.of_below HBX2.out).trans HO3.out
  have HON := Lib.hid hon
  have hk3 : Blk w3 l 173 _ := H2.out.only HO3.out (fun hk => by have := (hVB l hk).1; omega)
  have HK3 := Lib.hid hk3
  have C2 : ∀ x : OnW (fun k => VV.ownBlock = some k) w2, x.w.cell? ⟨l, 2, none⟩ = some (.slice (some ⟨g, 0, none⟩) 1 cap) := fun x => (H2.out.only x.on (fun hk => by have := (hVB l hk).1; omega)).cell (j := 2) rfl
  have CB : ∀ x : OnW (fun k => VV.ownBlock = some k) w2, Blk x.w w.heap.size 119 _ := fun x => HBK2.out.only x.on (fun hk => by have := (hVB _ hk).2; omega)
  have b0 := fun x => (CB x).cell (j := 0) rfl
  have b1 := fun x => (CB x).cell (j := 1) rfl
  have b2 := fun x => (CB x).cell (j := 2) rfl
  have b3 := fun x => (CB x).cell (j := 3) rfl
  have b4 := fun x => (CB x).cell (j := 4) rfl
  have b5 := fun x => (CB x).cell (j := 5) rfl
  have b6 := fun x => (CB x).cell (j := 6) rfl
  have b7 := fun x => (CB x).cell (j := 7) rfl
  have b8 := fun x => (CB x).cell (j := 8) rfl
  clear CB happ ho3 hon hk3 hb3
  refine wp_region_mixO (fun k => VV.ownBlock = some k) 10 (.one [0, 1, 2, 3, 4, 5] 6 (.one [] 7 (.done [8, 9]))) (by kernel_rfl) (fun c d v a w h => by cases d <;> exact h) (by kernel_rfl) ?_
  simp only [wpMixT, pk_nil, pk_cons, pushAt_zero, pushAt_succ, List.drop_succ_cons, List.drop_zero]
  repeat (go_big_quiet_step (fail))
  refine wpQuiet_nil ?_
  clear b0 b1 b2 b3 b4 b5 b6 b7 b8
  subst hVV
  go_wp2_with fail
  refine thenQ_normal ⟨⟨⟨_, (Only.refl _ w2).drew.alloc _⟩, rfl⟩, ?_⟩
  refine wpQuiet_nil ?_
  refine wpList_app_run rfl _ _ _ rfl rfl rfl HP.out ?_
  go_wp2_with fail
  refine thenQ_normal ⟨⟨⟨_, HO3.out⟩, rfl⟩, ?_⟩
  repeat (go_big_quiet_step (fail))
  refine wpQuiet_nil ?_
  clear C2
  have HOW := Lib.hid hown3
  obtain ⟨A', cap', rfl, _, _, _⟩ := hown3.shape eltC
  clear hown3
  have f2 := HK3.out.fz 2
  have k2 := HK3.out.cell (j := 2) rfl
  have hsw : w.heap.size ≤ w3.heap.size := HON.out.size
  have hk4 := HK3.out.set (j := 2) (by simp) (.slice A' 2 cap')
  have HW4 := Lib.hid (HOW.out.kept (w' := w3.setCell ⟨l, 2, none⟩ (.slice A' 2 cap')) (fun g hg => Below.heap_setCell _ _ _ _ (by have := HOW.out.base hg; simp only []; omega)))
  have HO4 := Lib.hid ((HON.out.mono (T := fun k => k = l ∨ B ≤ k) (fun k hk => .inr (hVB k hk).1)).setCell (p := ⟨l, 2, none⟩) (.inl rfl) (.slice A' 2 cap'))
  have HK4 := Lib.hid hk4
  clear hk4
  go_wp2_with fail
  generalize w3.setCell ⟨l, 2, none⟩ (.slice A' 2 cap') = w4 at *
  have m4 := HK4.out.cell (j := 4) rfl
  have m5 := HK4.out.cell (j := 5) rfl
  have f4 := HK4.out.fz 4
  have f5 := HK4.out.fz 5
  go_region
  go_wp2_with fail
  go_ret
  have hk6 := (HK4.out.set (j := 4) (by simp) (.int .i64 2)).set (j := 5) (by simp) (.int .i64 2)
  refine ⟨rfl, _, ?_, hk6, ((HO4.out.setCell (p := ⟨l, 4, none⟩) (.inl rfl) (.int .i64 2)).setCell (p := ⟨l, 5, none⟩) (.inl rfl) (.int .i64 2)).drew⟩
  exact HW4.out.kept (fun g hg => by
    have h1 := HOW.out.base hg
    exact (Below.heap_setCell (w4.setCell ⟨l, 4, none⟩ (.int .i64 2)) ⟨l, 5, none⟩ (.int .i64 2) g (by simp only []; omega)).trans (Below.heap_setCell w4 ⟨l, 4, none⟩ (.int .i64 2) g (by simp only []; omega)))
set_option maxRecDepth 100000 in
set_option maxHeartbeats 2000000 in
theorem uaddC {f v : Value} (q : Nat) (hq : 1 ≤ q) (hq2 : q ≤ 100000000) (hR : Rules N w) (hB : B ≤ w.heap.size) (hNB : N ≤ B) (hlB : l < B) (hNl : N ≤ l) (hv : ROwn chC 119 9 B w v [(6, 0, 0), (4, 1, 0)]) (h : Blk w l 173 (lgC f v 2 2)) :
    Calls Tryz.prog 191 #[.pointer (some ⟨l, 0, none⟩), chV (1, 1, (q : Int))] w fun e w' => e = .returned (.int .i64 0) ∧ ∃ v', ROwn chC 119 9 B w' v' ([(6, 0, 0), (4, 1, 0)] ++ [(1, 1, (q : Int))]) ∧ Blk w' l 173 (lgC f v' 3 3) ∧ Only (fun k => k = l ∨ B ≤ k) w w' := by
  obtain ⟨g, cap, rfl, hcap1, hcap2, hgB, hgl, _, hat⟩ := hv.lies eltC (by simp)
  have hc9 : w.cell? ⟨g, 9, none⟩ = some (.int .i64 4) := hat 1 (4, 1, 0) 0 _ rfl rfl
  clear hat
  have hbx := below1 w (.cells #[.int .i64 1, .int .i64 1, .int .i64 (q : Int), .int .i64 0, .int .i64 0, .string ⟨#[]⟩, .int .i64 0, .int .i64 0, .bool false] 119)
  have hbk := Blk.made w 119 #[.int .i64 1, .int .i64 1, .int .i64 (q : Int), .int .i64 0, .int .i64 0, .string ⟨#[]⟩, .int .i64 0, .int .i64 0, .bool false]
  have hl0 := h.lt
  have H := Lib.hid (h.up hbx)
  have HV := Lib.hid (hv.up hbx)
  have HR := Lib.hid (hR.up hbx)
  have HBX := Lib.hid hbx
  have HBK := Lib.hid hbk
  clear h hv hR hbk
  go_enter Tryz.func191, Tryz.ntmps191
  go_wp2_with fail
  generalize w.alloc (.cells #[.int .i64 1, .int .i64 1, .int .i64 (q : Int), .int .i64 0, .int .i64 0, .string ⟨#[]⟩, .int .i64 0, .int .i64 0, .bool false] 119) = W at *
  refine (unone _ _ _ _ H.out).mono ?_
  rintro e w' ⟨rfl, rfl⟩
  have b0 := HBK.out.cell (j := 0) rfl
  have b1 := HBK.out.cell (j := 1) rfl
  have b2 := HBK.out.cell (j := 2) rfl
  have b3 := HBK.out.cell (j := 3) rfl
  have b4 := HBK.out.cell (j := 4) rfl
  have b5 := HBK.out.cell (j := 5) rfl
  have b6 := HBK.out.cell (j := 6) rfl
  have b7 := HBK.out.cell (j := 7) rfl
  have b8 := HBK.out.cell (j := 8) rfl
  go_wp2_with fail
  refine (ucheck1 1 q (by omega) hq (by omega) HR.out).mono ?_
  rintro e w1 ⟨rfl, hb1⟩
  have H1 := Lib.hid (H.out.up hb1)
  have HV1 := Lib.hid (HV.out.up hb1)
  have HBX1 := Lib.hid (up2 HBX.out hb1)
  have HBK1 := Lib.hid (HBK.out.up hb1)
  clear b0 b1 b2 b3 b4 b5 b6 b7 b8 hb1 H HV HBX HBK HR
  have b0 := HBK1.out.cell (j := 0) rfl
  have b1 := HBK1.out.cell (j := 1) rfl
  have b2 := HBK1.out.cell (j := 2) rfl
  have b3 := HBK1.out.cell (j := 3) rfl
  have b4 := HBK1.out.cell (j := 4) rfl
  have b5 := HBK1.out.cell (j := 5) rfl
  have b6 := HBK1.out.cell (j := 6) rfl
  have b7 := HBK1.out.cell (j := 7) rfl
  have b8 := HBK1.out.cell (j := 8) rfl
  have l2 := H1.out.cell (j := 2) rfl
  have hlk : w1.cell? ⟨g, 9, none⟩ = some (.int .i64 4) := (World.cell?_of_block (w := w) (a := ⟨g, 9, none⟩) (HBX1.out.block g hgl)).trans hc9
  go_wp2_with fail
  go_region
  go_wp2_with fail
  refine (uprice 1 1 (q : Int) (by simp)).mono ?_
  rintro e w2 ⟨rfl, hb2⟩
  have hb2' : Below w1.heap.size w1 w2 := up2 ((Below.refl _ w1).drew) hb2
  have H2 := Lib.hid (H1.out.up hb2')
  have HV2 := Lib.hid (HV1.out.up hb2')
  have HBX2 := Lib.hid (up2 HBX1.out hb2')
  have HBK2 := Lib.hid (HBK1.out.up hb2')
  clear b0 b1 b2 b3 b4 b5 b6 b7 b8 hb2 hb2' H1 HV1 HBX1 HBK1 l2 hlk hc9
  have l5 := H2.out.cell (j := 5) rfl
  go_wp2_with fail
  obtain ⟨VV, hVV⟩ : ∃ VV : Value, VV = (.slice (some ⟨g, 0, none⟩) 2 cap) := ⟨_, rfl⟩
  have hVB : ∀ k, VV.ownBlock = some k → B ≤ k ∧ k < w.heap.size := by
    intro k hk
    subst hVV
    simp [Value.ownBlock] at hk
    exact hk ▸ ⟨hgB, hgl⟩
  obtain ⟨v', w3, happ, hown3, hb3, ho3, hblk3⟩ := append_elem eltC (B := B) (w := w2.drew) (hVV ▸ (HV2.out.up ((Below.refl _ w2).drew)) : ROwn chC 119 9 B w2.drew VV [(6, 0, 0), (4, 1, 0)]) (Nat.le_trans hB HBX2.out.size) (1, 1, (q : Int)) (by simp) (by omega)
  have HP := Lib.hid happ
  have HO3 : Hid (Only (fun k => VV.ownBlock = some k) w2 w3) := Lib.hid (((Only.refl _ w2).drew).trans ho3)
  have hon : Only (fun k => VV.ownBlock = some k) w w3 := (Only.of_below HBX2.out).trans HO3.out
  have HON := Lib.hid hon
  have hk3 : Blk w3 l 173 _ := H2.out.only HO3.out (fun hk => by have := (hVB l hk).1; omega)
  have HK3 := Lib.hid hk3
  have C2 : ∀ x : OnW (fun k => VV.ownBlock = some k) w2, x.w.cell? ⟨l, 2, none⟩ = some (.slice (some ⟨g, 0, none⟩) 2 cap) := fun x => (H2.out.only x.on (fun hk => by have := (hVB l hk).1; omega)).cell (j := 2) rfl
  have CB : ∀ x : OnW (fun k => VV.ownBlock = some k) w2, Blk x.w w.heap.size 119 _ := fun x => HBK2.out.only x.on (fun hk => by have := (hVB _ hk).2; omega)
  have b0 := fun x => (CB x).cell (j := 0) rfl
  have b1 := fun x => (CB x).cell (j := 1) rfl
  have b2 := fun x => (CB x).cell (j := 2) rfl
  have b3 := fun x => (CB x).cell (j := 3) rfl
  have b4 := fun x => (CB x).cell (j := 4) rfl
  have b5 := fun x => (CB x).cell (j := 5) rfl
  have b6 := fun x => (CB x).cell (j := 6) rfl
  have b7 := fun x => (CB x).cell (j := 7) rfl
  have b8 := fun x => (CB x).cell (j := 8) rfl
  clear CB happ ho3 hon hk3 hb3
  refine wp_region_mixO (fun k => VV.ownBlock = some k) 10 (.one [0, 1, 2, 3, 4, 5] 6 (.one [] 7 (.done [8, 9]))) (by kernel_rfl) (fun c d v a w h => by cases d <;> exact h) (by kernel_rfl) ?_
  simp only [wpMixT, pk_nil, pk_cons, pushAt_zero, pushAt_succ, List.drop_succ_cons, List.drop_zero]
  repeat (go_big_quiet_step (fail))
  refine wpQuiet_nil ?_
  clear b0 b1 b2 b3 b4 b5 b6 b7 b8
  subst hVV
  go_wp2_with fail
  refine thenQ_normal ⟨⟨⟨_, (Only.refl _ w2).drew.alloc _⟩, rfl⟩, ?_⟩
  refine wpQuiet_nil ?_
  refine wpList_app_run rfl _ _ _ rfl rfl rfl HP.out ?_
  go_wp2_with fail
  refine thenQ_normal ⟨⟨⟨_, HO3.out⟩, rfl⟩, ?_⟩
  repeat (go_big_quiet_step (fail))
  refine wpQuiet_nil ?_
  clear C2
  have HOW := Lib.hid hown3
  obtain ⟨A', cap', rfl, _, _, _⟩ := hown3.shape eltC
  clear hown3
  have f2 := HK3.out.fz 2
  have k2 := HK3.out.cell (j := 2) rfl
  have hsw : w.heap.size ≤ w3.heap.size := HON.out.size
  have hk4 := HK3.out.set (j := 2) (by simp) (.slice A' 3 cap')
  have HW4 := Lib.hid (HOW.out.kept (w' := w3.setCell ⟨l, 2, none⟩ (.slice A' 3 cap')) (fun g hg => Below.heap_setCell _ _ _ _ (by have := HOW.out.base hg; simp only []; omega)))
  have HO4 := Lib.hid ((HON.out.mono (T := fun k => k = l ∨ B ≤ k) (fun k hk => .inr (hVB k hk).1)).setCell (p := ⟨l, 2, none⟩) (.inl rfl) (.slice A' 3 cap'))
  have HK4 := Lib.hid hk4
  clear hk4
  go_wp2_with fail
  generalize w3.setCell ⟨l, 2, none⟩ (.slice A' 3 cap') = w4 at *
  have m4 := HK4.out.cell (j := 4) rfl
  have m5 := HK4.out.cell (j := 5) rfl
  have f4 := HK4.out.fz 4
  have f5 := HK4.out.fz 5
  go_region
  go_wp2_with fail
  go_ret
  have hk6 := (HK4.out.set (j := 4) (by simp) (.int .i64 3)).set (j := 5) (by simp) (.int .i64 3)
  refine ⟨rfl, _, ?_, hk6, ((HO4.out.setCell (p := ⟨l, 4, none⟩) (.inl rfl) (.int .i64 3)).setCell (p := ⟨l, 5, none⟩) (.inl rfl) (.int .i64 3)).drew⟩
  exact HW4.out.kept (fun g hg => by
    have h1 := HOW.out.base hg
    exact (Below.heap_setCell (w4.setCell ⟨l, 4, none⟩ (.int .i64 3)) ⟨l, 5, none⟩ (.int .i64 3) g (by simp only []; omega)).trans (Below.heap_setCell w4 ⟨l, 4, none⟩ (.int .i64 3) g (by simp only []; omega)))
end
end Go.Proofs.YtnbccoelbfgmgaaGreatDoor
