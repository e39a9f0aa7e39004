import Derived.Test.YtnbccoelbfgmgaaGreatDoorZ07
import Derived.Test.YtnbccoelbfgmgaaGreatDoorZ13
import Derived.Shelf.Slices.Cells
import Derived.Shelf.Slices.Empties
import Derived.Test.YtnbccoelbfgmgaaGreatDoorLayS
/- slices.Delete at []int, at a row that lies in a block of its own; package gap: Delete, any text. -/
namespace Go.Proofs.YtnbccoelbfgmgaaGreatDoor
open Go.RowKit Go.Lib
set_option linter.unusedVariables false
set_option linter.unusedSimpArgs false
section
variable {w w' : World}
theorem sdelete_own {D i j : Nat} {v : Value} {xs : List Int} (hv : ROwn encI 3 1 D w v xs) (hij : i ≤ j) (hj : j ≤ xs.length) :
    Calls Tryz.prog 219 #[v, .int .i64 i, .int .i64 j] w (InsP w D v (xs.take i ++ xs.drop j)) := by
  rcases own_open hv with ⟨rfl, rfl⟩ | ⟨g, cap, cl, rfl, hDg, hgb, hgl, hgm, hgs, hgt⟩
  · simp only [List.length_nil, Nat.le_zero] at hj
    subst hj
    obtain rfl : i = 0 := by omega
    refine (Any.slices_Delete_int_empty Tryz.laysDelete none 0 w).mono ?_
    rintro e w' ⟨rfl, rfl⟩
    exact ⟨_, rfl, by simpa using hv, Only.refl _ _, fun k hk => .inl hk⟩
  · have hgm' := hgm
    unfold maxLen at hgm'
    have := Any.slices_Delete_int_cells Tryz.laysDelete g 0 xs.length cap i j xs w (Nat.le_refl _) hgl (by omega) hij hj
      (fun q hq => by rw [Nat.zero_add, cell_list hgb]; exact get_of_take hgt (by simp [List.getElem?_map, List.getElem?_eq_getElem hq, List.getD_eq_getElem?_getD])) (fun q _ => froz_list hgb _)
    rw [List.take_of_length_le (Nat.le_refl _)] at this
    refine this.mono ?_
    rintro e w' ⟨rfl, q, rfl⟩
    have hB := heap_setCells ((xs.take i ++ xs.drop j ++ List.replicate (j - i) 0).map (Value.int .i64)) 0 (w.drewN q) cl hgb
    have hlen : (xs.take i ++ xs.drop j).length = xs.length - (j - i) := by simp; omega
    refine ⟨_, rfl, ?_, ((⟨rfl, rfl, rfl, Nat.le_refl _, fun _ _ _ => rfl⟩ : Only (fun k => (Value.slice (some ⟨g, 0, none⟩) xs.length cap).ownBlock = some k) w (w.drewN q))).trans ((only_setCells _ _ _).mono (fun k hk => by rw [hk]; rfl)), fun k hk => .inl hk⟩
    have h2 := own_mk (D := D) (xs := xs.take i ++ xs.drop j) (cap := cap) hDg hB (by omega) hgm (by rw [stL_length]; exact hgs) (by
      rw [stL_eq _ _ _ (by simp; omega)]
      simp only [List.take_zero, List.nil_append]
      rw [List.take_append_of_le_length (by first | (simp; done) | (simp; omega)), List.map_append, List.take_append_of_le_length (by simp)]
      rw [List.take_of_length_le (by simp)])
    rw [hlen] at h2
    exact h2
end
/-- A text without what lies from x on up to y. -/
def delC (cs : List Nat) (x y : Nat) : List Nat := cs.take (x - 1) ++ cs.drop (y - 1)
section
variable {w w' : World} {t g st en : Nat} {fv : Value} {B : List Int} {cs : List Nat}
set_option maxRecDepth 100000 in
set_option maxHeartbeats 4000000 in
theorem gdelete_ok (h : GapX w t g fv B st en cs) (x y : Nat) (hx1 : 1 ≤ x) (hxy : x ≤ y) (hy : y ≤ cs.length + 1) :
    Calls Tryz.prog 169 #[.pointer (some ⟨t, 0, none⟩), .int .i64 x, .int .i64 y] w fun e w' => e = .returned (.int .i64 0) ∧ GapTo w t g fv (delC cs x y) w' := by
  have hlen := h.len
  have h1 := h.gw.h1
  have h2 := h.gw.h2
  have hle := h.le
  obtain ⟨i, hi⟩ : ∃ i, i + 1 = x := ⟨x - 1, by omega⟩
  obtain ⟨d, hd⟩ : ∃ d, d = y - x := ⟨_, rfl⟩
  have s1 : IntKind.i64.wrap ((x : Int) - 1) = (i : Int) := by rw [IntWalk.i64_in _ (by omega)]; omega
  have s2 : IntKind.i64.wrap ((y : Int) - x) = (d : Int) := by rw [IntWalk.i64_in _ (by omega)]; omega
  have HSP := Lib.hid (gspan_ok h.r x y hx1 hxy hy)
  have HN := Lib.hid (gnone1 h.gw)
  have AA := Lib.hid (⟨hlen, h1, h2, hi, hd, hx1, hxy, hy, hle⟩ : _ ∧ _ ∧ _ ∧ _ ∧ _ ∧ _ ∧ _ ∧ _ ∧ _)
  have H := Lib.hid h
  clear h hlen h1 h2 hi hd hx1 hxy hy hle
  go_enter Tryz.func169, Tryz.ntmps169
  go_wp2_with fail
  refine HN.out.mono ?_
  rintro e w' ⟨rfl, rfl⟩
  clear HN
  go_wp2_with fail
  refine HSP.out.mono ?_
  rintro e w1 ⟨rfl, hb1⟩
  have B1 := Lib.hid hb1
  clear hb1 HSP
  go_wp2_with fail
  refine (gmove_ok (H.out.up B1.out).gw (i := i) (by have := AA.out; omega)).mono ?_
  rintro e w5 ⟨rfl, ho5, hz5, B5, hg5, hl5, ht5⟩
  obtain ⟨E, hE⟩ : ∃ E, E = i + (en - st) := ⟨_, rfl⟩
  rw [← hE] at hg5 ht5
  rw [(H.out).txt] at ht5
  have HX5 := Lib.hid (show GapX w5 t g fv B5 i E cs from ⟨hg5, ((H.out.up B1.out).own).kept (fun k hk => ho5.block k ((H.out.up B1.out).own.lt hk) (fun e => by have := H.out.nf k hk; omega)), H.out.nf, ht5, H.out.cn, H.out.le⟩)
  have O5 := Lib.hid (show Only (gapFoot t g fv) w w5 from (Only.of_below B1.out).trans (ho5.mono (fun k hk => hk.elim .inl (fun h => .inr (.inl h)))))
  have c2 : w5.cell? ⟨t, 2, none⟩ = some (.int .i64 E) := hg5.c2
  have f2 := hg5.fzT 2
  have s3 : IntKind.i64.wrap ((E : Int) + (d : Int)) = ((E + d : Nat) : Int) := by rw [IntWalk.i64_in _ (by have := AA.out; have := hg5.lim; omega)]; omega
  have hEB : E + d ≤ B5.length := by have := AA.out; omega
  obtain ⟨w6, hw6⟩ : ∃ w6, w5.setCell ⟨t, 2, none⟩ (.int .i64 ((E : Int) + (d : Int))) = w6 := ⟨_, rfl⟩
  have ho6 : Only (fun k => k = t) w5 w6 := hw6 ▸ (Only.refl (fun k => k = t) w5).setCell (p := ⟨t, 2, none⟩) rfl _
  have hg6 : GapW w6 t g B5 i (E + d) fv := hw6 ▸ hg5.setE (E + d) (by have := hg5.h1; omega) hEB
  have hown6 : ROwn encI 3 1 0 w6 fv (feeds cs) := HX5.out.own.kept (fun k hk => ho6.block k (HX5.out.own.lt hk) (H.out.nf k hk).1)
  have hO6 : Only (gapFoot t g fv) w w6 := O5.out.trans (ho6.mono (fun k hk => .inl hk))
  have hfl : (feeds cs).length ≤ 65536 := by have := feedsF_len cs 1; have := H.out.le; unfold feeds; omega
  have hst := (feedsF_sorted cs 1).imp (R := (· < ·)) (S := (· ≤ ·)) (fun h => Int.le_of_lt h)
  have hcn : (feeds cs).countP (fun z => decide (z < (x : Int))) = (feeds (cs.take i)).length := by
    have := feeds_count (cs.take i) (cs.drop i) (x : Int) (by have := AA.out; simp; omega)
    rwa [List.take_append_drop] at this
  have hcm : (feeds cs).countP (fun z => decide (z < (y : Int))) = (feeds (cs.take (y - 1))).length := by
    have := feeds_count (cs.take (y - 1)) (cs.drop (y - 1)) (y : Int) (by have := AA.out; simp; omega)
    rwa [List.take_append_drop] at this
  have hBS := fun (w' : World) (hb : Below w6.heap.size w6 w') => bsearch_own (hown6.up hb) hst (by omega) (x : Int)
  have hBT := fun (w' : World) (hb : Below w6.heap.size w6 w') => bsearch_own (hown6.up hb) hst (by omega) (y : Int)
  obtain ⟨X, hX⟩ : ∃ X, X = feeds cs := ⟨_, rfl⟩
  rw [← hX] at hown6 hfl hBS hBT hcn hcm
  rw [hcn] at hBS
  rw [hcm] at hBT
  obtain ⟨i2, hi2⟩ : ∃ i2, i2 = (feeds (cs.take i)).length := ⟨_, rfl⟩
  obtain ⟨k2, hk2⟩ : ∃ k2, k2 = (feeds (cs.take (y - 1))).length := ⟨_, rfl⟩
  rw [← hi2] at hBS hcn
  rw [← hk2] at hBT hcm
  have hk2l : k2 ≤ X.length := by rw [← hcm]; exact List.countP_le_length
  have hik : i2 ≤ k2 := by rw [← hcm, ← hcn]; exact List.countP_mono_left (fun z _ h => by simp at h ⊢; have := AA.out; omega)
  have hSD := fun (w' : World) (hb : Below w6.heap.size w6 w') => sdelete_own (hown6.up hb) hik hk2l
  have HQ := Lib.hid (⟨hO6, hfl, hX, hi2, hk2, hk2l, hik, hE, hl5, hEB, ht5⟩ : _ ∧ _ ∧ _ ∧ _ ∧ _ ∧ _ ∧ _ ∧ _ ∧ _ ∧ _ ∧ _)
  have HG6 := Lib.hid hg6
  have HOW6 := Lib.hid hown6
  have HBS := Lib.hid hBS
  have HBT := Lib.hid hBT
  have HSD := Lib.hid hSD
  have htk := AA.out
  clear hO6 hfl hX hi2 hk2 hk2l hik hE hl5 hEB ht5 hcn hcm hBS hBT hSD hst ho6 hg5 ho5 hz5 htk
  obtain ⟨A, cap, rfl, hcp1, hcp2, hrs⟩ := hown6.shape eltI
  clear hrs hown6
  have c3 : w6.cell? ⟨t, 3, none⟩ = some (.slice A X.length cap) := hg6.c3
  clear hg6
  go_wp2_with fail
  refine (HBS.out w6 (Below.refl _ _)).mono ?_
  rintro e w7 ⟨rfl, hb7⟩
  have B7 := Lib.hid hb7
  have c3 : w7.cell? ⟨t, 3, none⟩ = some (.slice A X.length cap) := (HG6.out.up hb7).c3
  clear hb7
  go_wp2_with fail
  refine (HBT.out w7 B7.out).mono ?_
  rintro e w8 ⟨rfl, hb8⟩
  have B8 := Lib.hid (up2 B7.out hb8)
  have c3 : w8.cell? ⟨t, 3, none⟩ = some (.slice A X.length cap) := (HG6.out.up B8.out).c3
  clear hb8
  go_wp2_with fail
  refine (HSD.out w8 B8.out).mono ?_
  rintro e w9 ⟨v', rfl, hown9, ho9, hb9⟩
  have hQ := HQ.out
  have hg9 : GapW w9 t g B5 i (E + d) (.slice A X.length cap) := (HG6.out.up B8.out).only ho9 (fun e => (H.out.nf t e).1 rfl) (fun e => (H.out.nf g e).2 rfl)
  have hO9 : Only (gapFoot t g (.slice A X.length cap)) w w9 := (hQ.1.trans (Only.of_below B8.out)).trans (ho9.mono (fun k hk => .inr (.inr hk)))
  have hz9 : w.heap.size ≤ w8.heap.size := (hQ.1.trans (Only.of_below B8.out)).size
  obtain ⟨X2, hX2⟩ : ∃ X2, X2 = X.take i2 ++ X.drop k2 := ⟨_, rfl⟩
  rw [← hX2] at hown9
  have hX2l : X2.length = X.length - (k2 - i2) := by rw [hX2]; simp; omega
  have hi2X : i2 ≤ X2.length := by omega
  have hnf9 : ∀ k, v'.ownBlock = some k → k ≠ t ∧ k ≠ g := fun k hk => (hb9 k hk).elim (H.out.nf k) (fun e => ⟨by have := hg9.ltT; have := (HG6.out.up B8.out).ltT; omega, by have := (HG6.out.up B8.out).ltG; omega⟩)
  have hft9 : ∀ k, v'.ownBlock = some k → gapFoot t g (.slice A X.length cap) k ∨ w.heap.size ≤ k := fun k hk => (hb9 k hk).elim (fun e => .inl (.inr (.inr e))) (fun e => .inr (by omega))
  obtain ⟨A9, c9, hv9, _, hcm9, _⟩ := hown9.shape eltI
  have f3 := hg9.fzT 3
  have c3 : w9.cell? ⟨t, 3, none⟩ = some (.slice A X.length cap) := hg9.c3
  subst hv9
  obtain ⟨wA, hwA⟩ : ∃ wA, w9.setCell ⟨t, 3, none⟩ (.slice A9 X2.length c9) = wA := ⟨_, rfl⟩
  have hoA : Only (fun k => k = t) w9 wA := hwA ▸ (Only.refl (fun k => k = t) w9).setCell (p := ⟨t, 3, none⟩) rfl _
  have hgA : GapW wA t g B5 i (E + d) (.slice A9 X2.length c9) := hwA ▸ hg9.setF _
  have hownA : ROwn encI 3 1 0 wA (.slice A9 X2.length c9) X2 := hown9.kept (fun k hk => hoA.block k (hown9.lt hk) (hnf9 k hk).1)
  have hOA : Only (gapFoot t g (.slice A X.length cap)) w wA := hO9.trans (hoA.mono (fun k hk => .inl hk))
  have hXl : X2.length ≤ 65536 := by omega
  have RR := Lib.hid (⟨hgA, hownA, hOA, hnf9, hft9, hX2, hi2X, hXl, hX2l⟩ : _ ∧ _ ∧ _ ∧ _ ∧ _ ∧ _ ∧ _ ∧ _ ∧ _)
  clear hQ hg9 hO9 hz9 hX2 hX2l hi2X hnf9 hft9 hcm9 hoA hgA hownA hOA hXl ho9 hb9 hown9
  go_wp2_with fail
  clear c3

  clear hwA f3
  go_loopw [7] (fun vk wr => ∃ j : Nat, i2 ≤ j ∧ j ≤ X2.length ∧ vk = .int .i64 j ∧ GapW wr t g B5 i (E + d) (.slice A9 X2.length c9) ∧ ROwn encI 3 1 0 wr (.slice A9 X2.length c9) (bump X2 i2 j (-(d : Int))) ∧ Only (fun k => gapFoot t g (.slice A X.length cap) k ∨ (Value.slice A9 X2.length c9).ownBlock = some k) w wr ∧ wA.heap.size ≤ wr.heap.size) (fun vk _ => X2.length - (intOf vk).toNat)
  case atStart =>
    obtain ⟨hgA, hownA, hOA, hnf9, hft9, hX2, hi2X, hXl, hX2l⟩ := RR.out
    exact ⟨i2, Nat.le_refl _, hi2X, rfl, hgA, by rw [bump_start]; exact hownA, hOA.mono (fun k hk => .inl hk), Nat.le_refl _⟩
  case round =>
    obtain ⟨j, hj1, hj2, rfl, hgw, how, hon, hsz⟩ := hrel
    have hXl := RR.out.2.2.2.2.2.2.2.1
    by_cases hlt : j < X2.length
    · have hbl : (bump X2 i2 j (-(d : Int))).length = X2.length := bump_len _ hj1 hj2
      obtain ⟨q, cap', hAq, _, _, _, hq2, hq3, hq4⟩ := how.lies eltI (by omega)
      have hA2 : A9 = some ⟨q, 0, none⟩ := by injection hAq
      subst hA2
      have hnq := RR.out.2.2.2.1 q rfl
      have hx := bump_get (-(d : Int)) hj1 hlt
      have c3 : wr.cell? ⟨t, 3, none⟩ = some (.slice (some ⟨q, 0, none⟩) X2.length c9) := hgw.c3
      have hcell : wr.cell? ⟨q, j, none⟩ = some (.int .i64 X2[j]) := by
        have := hq4 j X2[j] 0 (.int .i64 X2[j]) hx rfl
        simpa using this
      have d1 : decide (j < X2.length) = true := decide_eq_true hlt
      have hfz : wr.frozen? ⟨q, j, none⟩ = false := hq3 j (by omega)
      have hzb : 1 ≤ X2[j] ∧ X2[j] ≤ 65537 := by
        have hm : X2[j] ∈ X2 := List.getElem_mem _
        have hsub : ∀ q ∈ X2, q ∈ feeds cs := fun q hq => by
          rw [RR.out.2.2.2.2.2.1] at hq
          rw [← HQ.out.2.2.1]
          rcases List.mem_append.1 hq with h | h
          · exact List.mem_of_mem_take h
          · exact List.mem_of_mem_drop h
        have hm2 : X2[j] ∈ feeds cs := hsub _ hm
        have := feedsF_mem cs 1 X2[j] hm2
        have := H.out.le
        omega
      have hst := bump_step (-(d : Int)) hj1 hlt
      obtain ⟨z, hz⟩ : ∃ z, z = X2[j] := ⟨_, rfl⟩
      rw [← hz] at hx hcell hzb hst
      have s4 : IntKind.i64.wrap (z - (d : Int)) = z - d := IntWalk.i64_in _ (by have := AA.out; omega)
      have s5 : IntKind.i64.wrap ((j : Int) + 1) = ((j + 1 : Nat) : Int) := by rw [IntWalk.i64_in _ (by omega)]; omega
      have QQ := Lib.hid (⟨hgw, how, hon, hsz, hx, hbl, hnq, hst, hj1, hlt⟩ : _ ∧ _ ∧ _ ∧ _ ∧ _ ∧ _ ∧ _ ∧ _ ∧ _ ∧ _)
      clear hgw how hon hsz hx hbl hnq hst hj1 hq4 hq3 hAq hXl hzb hz hj2
      go_wp2_with fail
      go_roundw
      case rel =>
        obtain ⟨hgw, how, hon, hsz, hx, hbl, hnq, hst, hj1, hlt⟩ := QQ.out
        refine ⟨j + 1, by omega, by omega, by first | rfl | go_num, ?_, ?_, ?_, ?_⟩
        · exact (hgw.only ((Only.refl (fun k => k = q) wr).setCell (p := ⟨q, j, none⟩) rfl _) (fun e => hnq.1 e.symm) (fun e => hnq.2 e.symm) : GapW _ _ _ _ _ _ _)
        · rw [← hst]
          rw [← hbl] at how ⊢
          have e : z + -(d : Int) = z - d := by omega
          have := how.put eltI (i := j) (j := 0) (x := z) (y := z + -(d : Int)) (u := .int .i64 (z - d)) hx (by omega) (by rw [e]; rfl)
          simpa using this
        · exact hon.setCell (p := ⟨q, j, none⟩) (.inr rfl) _
        · simpa using hsz
      case measure => simp [intOf]; omega
    · have hje : j = X2.length := by omega
      subst hje
      have d1 : decide (X2.length < X2.length) = false := decide_eq_false (by omega)
      have c3 : wr.cell? ⟨t, 3, none⟩ = some (.slice A9 X2.length c9) := hgw.c3
      rw [bump_end] at how
      have QQ := Lib.hid (⟨hgw, how, hon, hsz⟩ : _ ∧ _ ∧ _ ∧ _)
      clear hgw how hon hsz hj1 hj2 hlt
      go_wp2_with fail
      go_ret
      obtain ⟨hgw, how, hon, hsz⟩ := QQ.out
      obtain ⟨hgA, hownA, hOA, hnf9, hft9, hX2, hi2X, hXl, hX2l⟩ := RR.out
      obtain ⟨hO6, hfl, hX, hi2, hk2, hk2l, hik, hE, hl5, hEB, ht5⟩ := HQ.out
      obtain ⟨hlen, h1, h2, hi, hd, hx1, hxy, hy, hle⟩ := AA.out
      have hpi : x - 1 = i := by omega
      have hil : (cs.take i).length = i := by simp; omega
      have hyl : (cs.take (y - 1)).length = y - 1 := by simp; omega
      have hfe : X2.take i2 ++ (X2.drop i2).map (fun z => z + -(d : Int)) = feeds (delC cs x y) := by
        have hsx := feeds_split (cs.take i) (cs.drop i)
        rw [List.take_append_drop, hil, ← hX] at hsx
        have hsy := feeds_split (cs.take (y - 1)) (cs.drop (y - 1))
        rw [List.take_append_drop, hyl, ← hX] at hsy
        have e1 : X.take i2 = feeds (cs.take i) := by rw [hsx, hi2]; simp
        have e2 : X.drop k2 = feedsF (1 + (y - 1)) (cs.drop (y - 1)) := by
          have : X.drop k2 = (feeds (cs.take (y - 1)) ++ feedsF (1 + (y - 1)) (cs.drop (y - 1))).drop k2 := by rw [← hsy]
          rw [this, hk2]; simp
        have e3 : (X.take i2).length = i2 := by simp; omega
        have e4 : X2.take i2 = X.take i2 := by rw [hX2, List.take_append_of_le_length (by omega), List.take_of_length_le (by omega)]
        have e5 : X2.drop i2 = X.drop k2 := by rw [hX2, List.drop_append, List.drop_eq_nil_of_le (by omega), e3]; simp
        rw [e4, e5, e1, e2]
        unfold delC
        rw [hpi, feeds_del (cs.take i) ((cs.drop i).take d) (cs.drop (y - 1)), hil]
        have e6 : ((cs.drop i).take d).length = d := by simp; omega
        rw [e6, show 1 + i + d = 1 + (y - 1) by omega]
        rfl
      rw [hfe] at how
      have htk2 : B5.take i ++ B5.drop (E + d) = (delC cs x y).map Int.ofNat := by
        have hbl : (B5.take i).length = i := by have := hgw.h1; have := hgw.h2; simp; omega
        have e1 : (cs.map Int.ofNat).take i = B5.take i := by rw [← ht5, List.take_append_of_le_length (by omega), List.take_of_length_le (by omega)]
        have e2 : (cs.map Int.ofNat).drop (y - 1) = B5.drop (E + d) := by
          rw [← ht5, List.drop_append, List.drop_eq_nil_of_le (by omega), hbl, List.nil_append, List.drop_drop]
          congr 1; omega
        unfold delC
        rw [hpi, List.map_append, List.map_take, List.map_drop, e1, e2]
      refine ⟨rfl, hon.then (Only.refl (fun _ => False) wr) (fun k hk => hk.elim) |>.then (Only.refl (fun _ => False) wr) (fun k hk => hk.elim) |> (fun h => ⟨h.os, h.tape, h.output, h.size, fun k hk hs => h.block k hk (fun e => e.elim hs (fun e2 => (hft9 k e2).elim hs (fun e3 => by omega)))⟩), g, _, B5, i, E + d, ⟨hgw, how, hnf9, htk2, ?_, ?_⟩, ?_⟩
      · intro c hc
        unfold delC at hc
        rcases List.mem_append.1 hc with hc | hc
        · exact H.out.cn c (List.mem_of_mem_take hc)
        · exact H.out.cn c (List.mem_of_mem_drop hc)
      · unfold delC; simp only [List.length_append, List.length_take, List.length_drop]; omega
      · intro k hk
        rcases hk with rfl | rfl | hk
        · exact .inl (.inl rfl)
        · exact .inl (.inr (.inl rfl))
        · exact hft9 k hk
end
end Go.Proofs.YtnbccoelbfgmgaaGreatDoor
/- packages marks, props, overs at empty sets: what a deletion asks of them; slices.Sorted(slices.Values(nil)). -/
namespace Go.Proofs.YtnbccoelbfgmgaaGreatDoor
open Go.RowKit Go.Lib
set_option linter.unusedVariables false
set_option linter.unusedSimpArgs false
section
variable {w w' : World} {m mm p o : Nat}
set_option maxHeartbeats 1000000 in
theorem bitsLen64_0 (w : World) : Calls Tryz.prog 210 #[.int .u64 0] w fun e w' => e = .returned (.int .i64 0) ∧ w = w' := by
  have h8 : len8 0 = 0 := by kernel_rfl
  have w8 : wrap64 0 = 0 := by kernel_rfl
  go_enter Tryz.func210, Tryz.ntmps210
  go_wp2_with fail
  go_ret
  exact ⟨rfl, rfl⟩
set_option maxHeartbeats 1000000 in
theorem bitsLen0 (w : World) : Calls Tryz.prog 160 #[.int .u64 0] w fun e w' => e = .returned (.int .i64 0) ∧ w = w' := by
  go_enter Tryz.func160, Tryz.ntmps160
  go_wp2_with fail
  refine (bitsLen64_0 w).mono ?_
  rintro e w' ⟨rfl, rfl⟩
  go_wp2_with fail
  go_ret
  exact ⟨rfl, rfl⟩
set_option maxHeartbeats 1000000 in
theorem insSort0 (f : Value) (w : World) : Calls Tryz.prog 267 #[.slice none 0 0, .int .i64 0, .int .i64 0, f] w fun e w' => e = .returned (.tuple #[]) ∧ w = w' := by
  go_enter Tryz.func267, Tryz.ntmps267
  go_wp2_with fail
  go_loopw [8] (fun va wr => va = .int .i64 1 ∧ w = wr) (fun _ _ => 0)
  case atStart => exact ⟨rfl, rfl⟩
  case round =>
    obtain ⟨rfl, rfl⟩ := hrel
    go_wp2_with fail
    go_end0
    exact ⟨rfl, rfl⟩
set_option maxHeartbeats 1000000 in
theorem pdq0 (k : Value) (f : Value) (w : World) : Calls Tryz.prog 254 #[.slice none 0 0, .int .i64 0, .int .i64 0, k, f] w fun e w' => e = .returned (.tuple #[]) ∧ w = w' := by
  go_enter Tryz.func254, Tryz.ntmps254
  go_wp2_with fail
  go_loopw [1, 2] (fun va vb wr => va = .int .i64 0 ∧ vb = .int .i64 0 ∧ w = wr) (fun _ _ _ => 0)
  case atStart => exact ⟨rfl, rfl, rfl⟩
  case round =>
    obtain ⟨rfl, rfl, rfl⟩ := hrel
    go_wp2_with fail
    refine (insSort0 f w).mono ?_
    rintro e w' ⟨rfl, rfl⟩
    go_wp2_with fail
    refine bodyPost_ret (results_none rfl _ _ _) rfl ?_
    exact ⟨rfl, rfl⟩
set_option maxHeartbeats 1000000 in
theorem sortF0 (f : Value) (w : World) : Calls Tryz.prog 214 #[.slice none 0 0, f] w fun e w' => e = .returned (.tuple #[]) ∧ w = w' := by
  go_enter Tryz.func214, Tryz.ntmps214
  go_wp2_with fail
  refine (bitsLen0 w).mono ?_
  rintro e w' ⟨rfl, rfl⟩
  go_wp2_with fail
  refine (pdq0 _ f w).mono ?_
  rintro e w' ⟨rfl, rfl⟩
  go_wp2_with fail
  go_end0
  exact ⟨rfl, rfl⟩
set_option maxHeartbeats 1000000 in
theorem min0 (x y : Int) (h : Mk0 w m mm) : Calls Tryz.prog 166 #[pAt m, .int .i64 x, .int .i64 y] w fun e w' => e = .returned (.slice none 0 0) ∧ Below w.heap.size w w' := by
  have hb := below1 w (.cells #[pAt m] 97)
  have hk := Blk.made w 97 #[pAt m]
  have H := Lib.hid (h.up hb)
  have HB := Lib.hid hb
  have HK := Lib.hid hk
  clear h hb hk
  go_enter Tryz.func166, Tryz.ntmps166
  go_wp2_with fail
  generalize w.alloc (.cells #[pAt m] 97) = W at *
  refine (mmade0 H.out).mono ?_
  rintro e w' ⟨rfl, rfl⟩
  have c0 := H.out.blk.cell (j := 0) rfl
  have k0 := HK.out.cell (j := 0) rfl
  obtain ⟨w1, hrange, hir, hb1, hs1⟩ := H.out.im.range (P := Tryz.prog) mapT0
  go_wp2_with fail
  clear hrange
  go_loopw [7] (fun va wr => va = .slice none 0 0 ∧ w1 = wr) (fun _ _ => 0)
  case atStart => exact ⟨rfl, rfl⟩
  case round =>
    obtain ⟨rfl, rfl⟩ := hrel
    rcases hir.next (P := Tryz.prog) with ⟨h0, hnx⟩ | ⟨k, v, w2, hk, _⟩
    · go_wp2_with fail
      refine (sortF0 _ w1).mono ?_
      rintro e w' ⟨rfl, rfl⟩
      go_wp2_with fail
      go_ret
      exact ⟨rfl, up2 HB.out hb1⟩
    · cases hk
set_option maxHeartbeats 1000000 in
theorem mdel0 (x y : Int) (h1 : 1 ≤ x) (h2 : x ≤ y) (h3 : y ≤ 65537) (h : Mk0 w m mm) : Calls Tryz.prog 170 #[pAt m, .int .i64 x, .int .i64 y] w fun e w' => e = .returned (.int .i64 0) ∧ Below w.heap.size w w' := by
  have d3 : decide (y < x) = false := decide_eq_false (by omega)
  have hb := below2 w (.cells #[.int .i64 x] 3) (.cells #[.int .i64 y] 3)
  obtain ⟨a0, a1⟩ := al2 w (.int .i64 x) (.int .i64 y) 3 3
  have H := Lib.hid (h.up hb)
  have HB := Lib.hid hb
  have HP := Lib.hid fun W => mplace_ok x h1 (by omega) W
  have HQ := Lib.hid fun W => mplace_ok y (by omega) (by omega) W
  clear h hb h1 h2 h3
  go_enter Tryz.func170, Tryz.ntmps170
  go_wp2_with fail
  generalize (w.alloc (.cells #[.int .i64 x] 3)).alloc (.cells #[.int .i64 y] 3) = W at *
  refine (mmade0 H.out).mono ?_
  rintro e w' ⟨rfl, rfl⟩
  go_wp2_with fail
  refine (HP.out _).mono ?_
  rintro e w' ⟨rfl, rfl⟩
  go_wp2_with fail
  refine (HQ.out _).mono ?_
  rintro e w' ⟨rfl, rfl⟩
  go_wp2_with fail
  refine (mchange0 _ _ H.out).mono ?_
  rintro e w2 ⟨rfl, hb2⟩
  go_wp2_with fail
  go_ret
  exact ⟨rfl, up2 HB.out hb2⟩
theorem values1_0 {c l : Nat} (hc : w.cell? ⟨c, 0, none⟩ = some (.slice none 0 0)) : Calls Tryz.prog 213 #[.func (.yield l) #[] #[], .pointer (some ⟨c, 0, none⟩)] w fun e w' => e = .returned (.tuple #[]) ∧ w = w' := by
  go_enter Tryz.func213, Tryz.ntmps213
  go_wp2_with fail
  go_loopw [7] (fun va wr => va = .int .i64 0 ∧ w = wr) (fun _ _ => 0)
  case atStart => exact ⟨rfl, rfl⟩
  case round =>
    obtain ⟨rfl, rfl⟩ := hrel
    go_wp2_with fail
    go_end0
    exact ⟨rfl, rfl⟩
theorem sortsA (n : Nat) : AnyZI.SortsIn Tryz.prog Tryz.sortedA_ren Fence.wide n :=
  ⟨fun blk off cap ss W hH hblk hsz => callsIn_wide.2 (AnyM.slices_Sort_int Tryz.sortA blk off cap ss W hH hblk hsz),
   fun p cap W => callsIn_wide.2 (AnyM.slices_Sort_int_none Tryz.sortA p cap W)⟩
/-- slices.Sorted(slices.Values(nil)), the second half. -/
theorem sorted0 {c : Nat} (hc : w.cell? ⟨c, 0, none⟩ = some (.slice none 0 0)) :
    Calls Tryz.prog 59 #[.func (.func 213) #[] #[.pointer (some ⟨c, 0, none⟩)]] w fun e w' => e = .returned (.slice none 0 0) ∧ Below w.heap.size w w' := by
  have hseq : SeqGives Fence.wide 2 Tryz.prog 213 #[.pointer (some ⟨c, 0, none⟩)] encZ (fun ss : List Int => ss = []) 0 w := fun l J W hb hA hY h0 => by
    refine callsIn_wide.2 ((values1_0 (w := W) (c := c) (l := l) ((World.cell?_of_block (w := w) (a := ⟨c, 0, none⟩) (hb.block c (lt_of_cell hc))).trans hc)).mono ?_)
    rintro e w' ⟨rfl, rfl⟩
    exact ⟨⟨_, rfl⟩, [], rfl, h0⟩
  have cS := AnyZI.sorted_in Tryz.sortedA Fence.wide 5 trivial trivial trivial trivial rfl (by omega) (sortsA _) (enters_of Tryz.func107 (by kernel_rfl) rfl) 213 #[.pointer (some ⟨c, 0, none⟩)] trivial (enters_of Tryz.func213 (by kernel_rfl) rfl) (fun ss : List Int => ss = []) 0 (by unfold maxLen; omega) (by omega) _ hseq
  change CallsIn _ _ Tryz.prog 59 _ _ _ at cS
  refine (callsIn_wide.1 cS).mono ?_
  rintro e w' ⟨v, ss, rfl, hS, hrow, hnil, hb⟩
  rw [hnil.2 hS]
  exact ⟨rfl, hb⟩
set_option maxHeartbeats 1000000 in
theorem pmay_ok (x y : Int) (h1 : 1 ≤ x) (h2 : x ≤ y) (h3 : y ≤ 65537) (w : World) : Calls Tryz.prog 221 #[.int .i64 x, .int .i64 y] w fun e w' => e = .returned (.bool true) ∧ w = w' := by
  have d1 : decide ((1 : Int) ≤ x) = true := decide_eq_true h1
  have d2 : decide (x ≤ y) = true := decide_eq_true h2
  have d3 : decide (y ≤ (65537 : Int)) = true := decide_eq_true h3
  clear h1 h2 h3
  go_enter Tryz.func221, Tryz.ntmps221
  go_wp2_with fail
  go_ret
  exact ⟨rfl, rfl⟩
set_option maxHeartbeats 1000000 in
theorem pspans0 (x y : Int) (h1 : 1 ≤ x) (h2 : x ≤ y) (h3 : y ≤ 65537) (h : Blk w p 183 prC) : Calls Tryz.prog 168 #[pAt p, .int .i64 x, .int .i64 y] w fun e w' => e = .returned (.slice none 0 0) ∧ w = w' := by
  have key : Calls Tryz.prog 218 #[pAt p, .int .i64 x, .int .i64 y, .int .i64 0] w fun e w' => e = .returned (.slice none 0 0) ∧ w = w' := by
    have HN := Lib.hid (pnone0 h)
    have c0 := h.cell (j := 0) rfl
    have HM := Lib.hid (pmay_ok x y h1 h2 h3 w)
    clear h h1 h2 h3
    go_enter Tryz.func218, Tryz.ntmps218
    go_wp2_with fail
    refine HN.out.mono ?_
    rintro e w' ⟨rfl, rfl⟩
    go_wp2_with fail
    refine HM.out.mono ?_
    rintro e w' ⟨rfl, rfl⟩
    go_wp2_with fail
    go_loopw [9, 27] (fun va vb wr => va = .slice none 0 0 ∧ vb = .int .i64 0 ∧ w = wr) (fun _ _ _ => 0)
    case atStart => exact ⟨rfl, rfl, rfl⟩
    case round =>
      obtain ⟨rfl, rfl, rfl⟩ := hrel
      go_wp2_with fail
      go_ret
      exact ⟨rfl, rfl⟩
  have HK := Lib.hid key
  clear key h h1 h2 h3
  go_enter Tryz.func168, Tryz.ntmps168
  go_wp2_with fail
  refine HK.out.mono ?_
  rintro e w' ⟨rfl, rfl⟩
  go_wp2_with fail
  go_ret
  exact ⟨rfl, rfl⟩
set_option maxHeartbeats 1000000 in
theorem pdel0 (x y : Int) (h1 : 1 ≤ x) (h2 : x ≤ y) (h3 : y ≤ 65537) (h : Blk w p 183 prC) : Calls Tryz.prog 171 #[pAt p, .int .i64 x, .int .i64 y] w fun e w' => e = .returned (.int .i64 0) ∧ Only (fun k => k = p) w w' ∧ Blk w' p 183 prC := by
  have HN := Lib.hid (pnone0 h)
  have HM := Lib.hid (pmay_ok x y h1 h2 h3 w)
  have c0 := h.cell (j := 0) rfl
  have f0 := h.fz 0
  have H := Lib.hid h
  clear h h1 h2 h3
  go_enter Tryz.func171, Tryz.ntmps171
  go_wp2_with fail
  refine HN.out.mono ?_
  rintro e w' ⟨rfl, rfl⟩
  go_wp2_with fail
  refine HM.out.mono ?_
  rintro e w' ⟨rfl, rfl⟩
  go_wp2_with fail
  go_loopw [7, 23] (fun va vb wr => va = .slice none 0 0 ∧ vb = .int .i64 0 ∧ w = wr) (fun _ _ _ => 0)
  case atStart => exact ⟨rfl, rfl, rfl⟩
  case round =>
    obtain ⟨rfl, rfl, rfl⟩ := hrel
    go_wp2_with fail
    go_ret
    refine ⟨rfl, Only.setCell (S := fun k => k = p) (p := ⟨p, 0, none⟩) (Only.refl _ w) rfl _, ?_⟩
    exact H.out.set (j := 0) (by simp) (.slice none 0 0)
set_option maxHeartbeats 1000000 in
theorem oright_ok (x y : Int) (h1 : 1 ≤ x) (h2 : x ≤ y) (h3 : y ≤ 65537) (w : World) : Calls Tryz.prog 222 #[.int .i64 x, .int .i64 y] w fun e w' => e = .returned (.bool true) ∧ w = w' := by
  have d2 : decide (x ≤ y) = true := decide_eq_true h2
  have HP := Lib.hid fun W => oplace_ok x h1 (by omega) W
  have HQ := Lib.hid fun W => oplace_ok y (by omega) (by omega) W
  clear h1 h2 h3
  go_enter Tryz.func222, Tryz.ntmps222
  go_wp2_with fail
  refine (HP.out _).mono ?_
  rintro e w' ⟨rfl, rfl⟩
  go_wp2_with fail
  refine (HQ.out _).mono ?_
  rintro e w' ⟨rfl, rfl⟩
  go_wp2_with fail
  go_ret
  exact ⟨rfl, rfl⟩
set_option maxHeartbeats 1000000 in
theorem idxF0 (f : Value) (w : World) : Calls Tryz.prog 255 #[.slice none 0 0, f] w fun e w' => e = .returned (.int .i64 (-1)) ∧ w = w' := by
  go_enter Tryz.func255, Tryz.ntmps255
  go_wp2_with fail
  go_loopw [8] (fun va wr => va = .int .i64 0 ∧ w = wr) (fun _ _ => 0)
  case atStart => exact ⟨rfl, rfl⟩
  case round =>
    obtain ⟨rfl, rfl⟩ := hrel
    go_wp2_with fail
    go_ret
    exact ⟨rfl, rfl⟩
set_option maxHeartbeats 1000000 in
theorem delF0 (F : FuncId) (bd cp : Array Value) (w : World) : Calls Tryz.prog 223 #[.slice none 0 0, .func (.func F) bd cp] w fun e w' => e = .returned (.slice none 0 0) ∧ w = w' := by
  have HI := Lib.hid (idxF0 (.func (.func F) bd cp) w)
  go_enter Tryz.func223, Tryz.ntmps223
  go_wp2_with fail
  refine HI.out.mono ?_
  rintro e w' ⟨rfl, rfl⟩
  go_wp2_with fail
  go_ret
  exact ⟨rfl, rfl⟩
set_option maxRecDepth 100000 in
set_option maxHeartbeats 2000000 in
theorem odel0 (pr ev : Int) (x y : Int) (h1 : 1 ≤ x) (h2 : x ≤ y) (h3 : y ≤ 65537) (h : Blk w o 186 (ovC pr ev)) : Calls Tryz.prog 172 #[pAt o, .int .i64 x, .int .i64 y] w fun e w' => e = .returned (.tuple #[.slice none 0 0, .int .i64 0]) ∧ Only (fun k => k = o) w w' ∧ Blk w' o 186 (ovC pr ev) := by
  have hmm := @run_makeMap Tryz.prog
  have HN := Lib.hid fun W (hb : Below w.heap.size w W) => ovalid0 pr ev (h.up hb)
  have HR := Lib.hid (oright_ok x y h1 h2 h3)
  have HA := Lib.hid fun W v (hb : Below w.heap.size w W) => oapply0 pr ev v (h.up hb)
  have H := Lib.hid h
  have ho := h.lt
  have HB1 := Lib.hid (below1 w (.cells #[pAt o] 99))
  have hk := Blk.made w 99 #[pAt o]
  have HK := Lib.hid hk
  clear h h1 h2 h3 hk
  go_enter Tryz.func172, Tryz.ntmps172
  go_wp2_with fail
  generalize w.alloc (.cells #[pAt o] 99) = W at *
  refine (HN.out W HB1.out).mono ?_
  rintro e w' ⟨rfl, rfl⟩
  go_wp2_with fail
  refine (HR.out W).mono ?_
  rintro e w' ⟨rfl, rfl⟩
  have k0 := HK.out.cell (j := 0) rfl
  have c2 := (H.out.up HB1.out).cell (j := 2) rfl
  have zW := HB1.out.size
  have hWk := HK.out.lt
  have hoW : o < W.heap.size := by omega
  go_wp2_with fail
  have hb2 := below2 W (.map #[] 0) (.cells #[.map (some W.heap.size)] 276)
  have B2 := Lib.hid (up2 HB1.out hb2)
  have K2 := Lib.hid (HK.out.up hb2)
  have H2 := Lib.hid (H.out.up B2.out)
  clear k0 c2 hb2 hmm
  generalize (W.alloc (.map #[] 0)).alloc (.cells #[.map (some W.heap.size)] 276) = W2 at *
  go_loopw [27] (fun va wr => va = .int .i64 0 ∧ W2 = wr) (fun _ _ => 0)
  case atStart => exact ⟨rfl, rfl⟩
  case round =>
    obtain ⟨rfl, rfl⟩ := hrel
    have k0 := K2.out.cell (j := 0) rfl
    go_wp2_with fail
    refine (HA.out _ _ B2.out).mono ?_
    rintro e w' ⟨rfl, rfl⟩
    go_wp2_with fail
    have hb3 := below1 W2 (.cells #[.slice none 0 0] 53)
    have B3 := Lib.hid (up2 B2.out hb3)
    have K3 := Lib.hid (K2.out.up hb3)
    have H3 := Lib.hid (H2.out.up hb3)
    have hgk := Blk.made W2 53 #[.slice none 0 0]
    have hne : W2.heap.size ≠ o := by have := H2.out.lt; omega
    have HGK := Lib.hid hgk
    clear k0 hb3 hgk
    generalize W2.alloc (.cells #[.slice none 0 0] 53) = W3 at *
    have k0 : ∀ X : UpW W3.heap.size W3, X.w.cell? ⟨w.heap.size, 0, none⟩ = some (pAt o) := fun X => (K3.out.up X.up).cell (j := 0) rfl
    have c2 : ∀ X : UpW W3.heap.size W3, X.w.cell? ⟨o, 2, none⟩ = some (.slice none 0 0) := fun X => (H3.out.up X.up).cell (j := 2) rfl
    refine wp_region_mix W3.heap.size 9 [([0, 1, 2, 3, 4], 5), ([], 6)] [7, 8] (by kernel_rfl) (fun c d v a w h => by cases d <;> exact h) (by kernel_rfl) ?_
    simp only [wpMix, pk_nil, pk_cons, pushAt_zero, pushAt_succ, List.drop_succ_cons, List.drop_zero]
    repeat (go_big_quiet_step (fail))
    refine wpQuiet_nil ?_
    go_wp2_with fail
    refine thenQ_normal ⟨⟨⟨_, (Below.refl _ W3).drew⟩, rfl⟩, ?_⟩
    refine wpQuiet_nil ?_
    go_wp2_with fail
    refine (delF0 _ _ _ _).mono ?_
    rintro e w' ⟨rfl, rfl⟩
    go_wp2_with fail
    refine thenQ_normal ⟨⟨⟨_, (Below.refl _ W3).drew⟩, rfl⟩, ?_⟩
    repeat (go_big_quiet_step (fail))
    refine wpQuiet_nil ?_
    clear k0 c2
    have f2 := H3.out.fz 2
    have q2 := H3.out.cell (j := 2) rfl
    have g0 := HGK.out.cell (j := 0) rfl
    go_wp2_with fail
    go_ret2
    exact ⟨rfl, ((Only.of_below (S := fun k => k = o) B3.out).setCell (p := ⟨o, 2, none⟩) rfl (.slice none 0 0)).drew, H3.out.set (j := 2) (by simp) (.slice none 0 0)⟩
end
end Go.Proofs.YtnbccoelbfgmgaaGreatDoor
/- package buffer: how a deletion moves positions; gap.Delete at a text whose blocks lie in F. -/
namespace Go.Proofs.YtnbccoelbfgmgaaGreatDoor
open Go.RowKit Go.Lib
set_option linter.unusedVariables false
set_option linter.unusedSimpArgs false
/-- Where a deletion of x .. y moves a position. -/
def delF (x y : Int) (p : Int) (_ : Bool) : Int := if y ≤ p then p - (y - x) else if x < p then x else p
def delN (x y p : Nat) : Nat := if y ≤ p then p - (y - x) else if x < p then x else p
theorem delF_nat (x y p : Nat) (h : x ≤ y) (ah : Bool) : delF (x : Int) (y : Int) (p : Int) ah = ((delN x y p : Nat) : Int) := by
  unfold delF delN
  by_cases h1 : y ≤ p
  · rw [if_pos (by omega), if_pos h1]; omega
  · rw [if_neg (by omega), if_neg h1]
    by_cases h2 : x < p
    · rw [if_pos (by omega), if_pos h2]
    · rw [if_neg (by omega), if_neg h2]
section
variable {w w' : World} {t : Nat} {F : Nat → Prop} {cs : List Nat}
set_option maxHeartbeats 2000000 in
theorem deleted1_ok {k0 k1 : Nat} (y x p : Int) (ah : Bool) (hp0 : 0 ≤ p) (hp1 : p ≤ 2000000) (hx0 : 0 ≤ x) (hxy : x ≤ y) (hy1 : y ≤ 2000000) (h0 : w.cell? ⟨k0, 0, none⟩ = some (.int .i64 y)) (h1 : w.cell? ⟨k1, 0, none⟩ = some (.int .i64 x)) :
    Calls Tryz.prog 226 #[.int .i64 p, .bool ah, pAt k0, pAt k1] w fun r w2 => r = .returned (.int .i64 (delF x y p ah)) ∧ Below w.heap.size w w2 := by
  have s1 : IntKind.i64.wrap (y - x) = y - x := IntWalk.i64_in _ (by omega)
  have s2 : IntKind.i64.wrap (p - (y - x)) = p - (y - x) := IntWalk.i64_in _ (by omega)
  by_cases h : y ≤ p
  · have e : delF x y p ah = p - (y - x) := by unfold delF; rw [if_pos h]
    rw [e]
    have d1 : decide (y ≤ p) = true := decide_eq_true h
    clear e h hp0 hp1 hx0 hxy hy1
    go_enter Tryz.func226, Tryz.ntmps226
    go_wp2_with fail
    go_ret
    exact ⟨rfl, Below.refl _ _⟩
  · have d1 : decide (y ≤ p) = false := decide_eq_false h
    by_cases h2 : x < p
    · have e : delF x y p ah = x := by unfold delF; rw [if_neg h, if_pos h2]
      rw [e]
      have d2 : decide (x < p) = true := decide_eq_true h2
      clear e h h2 hp0 hp1 hx0 hxy hy1 s1 s2
      go_enter Tryz.func226, Tryz.ntmps226
      go_wp2_with fail
      go_ret
      exact ⟨rfl, Below.refl _ _⟩
    · have e : delF x y p ah = p := by unfold delF; rw [if_neg h, if_neg h2]
      rw [e]
      have d2 : decide (x < p) = false := decide_eq_false h2
      clear e h h2 hp0 hp1 hx0 hxy hy1 s1 s2
      go_enter Tryz.func226, Tryz.ntmps226
      go_wp2_with fail
      go_ret
      exact ⟨rfl, Below.refl _ _⟩
theorem deleted_ok (x y : Int) (hx0 : 0 ≤ x) (hxy : x ≤ y) (hy1 : y ≤ 2000000) (w : World) : Calls Tryz.prog 173 #[.int .i64 x, .int .i64 y] w fun r w' =>
    ∃ cp, r = .returned (.func (.func 226) #[] cp) ∧ Below w.heap.size w w' ∧ EditAt w' 226 cp (delF x y) := by
  have HN := Lib.hid (⟨hx0, hxy, hy1⟩ : _ ∧ _ ∧ _)
  clear hx0 hxy hy1
  go_enter Tryz.func173, Tryz.ntmps173
  go_wp2_with fail
  go_ret
  obtain ⟨a0, a1⟩ := al2 w (.int .i64 x) (.int .i64 y) 3 3
  refine ⟨_, rfl, below2 w _ _, enters_mk Tryz.func226 (by kernel_rfl) rfl, fun p ah w1 h0 h1 hb => ?_⟩
  exact deleted1_ok y x p ah h0 h1 HN.out.1 HN.out.2.1 HN.out.2.2 (cell_up a1 hb) (cell_up a0 hb)
theorem gdeleteF (h : GapF1 w t F cs) (x y : Nat) (hx1 : 1 ≤ x) (hxy : x ≤ y) (hy : y ≤ cs.length + 1) :
    Calls Tryz.prog 169 #[.pointer (some ⟨t, 0, none⟩), .int .i64 x, .int .i64 y] w fun e w' => e = .returned (.int .i64 0) ∧ GapF1 w' t (grow F w.heap.size) (delC cs x y) ∧ Only F w w' := by
  obtain ⟨g, fv, B, st, en, hx, hf⟩ := h
  exact (gdelete_ok hx x y hx1 hxy hy).mono fun e w' ⟨he, ht⟩ => ⟨he, ht.f hf⟩
end
end Go.Proofs.YtnbccoelbfgmgaaGreatDoor
/- package buffer: take at a plain buffer. -/
namespace Go.Proofs.YtnbccoelbfgmgaaGreatDoor
open Go.RowKit Go.Lib
set_option linter.unusedVariables false
set_option linter.unusedSimpArgs false
/-- The change of a deletion. -/
abbrev delChg (p : Nat) (tx : ByteArray) : Chg := ⟨2, p, 0, 0, 0, tx, 0, 0, false⟩
theorem subL_isN {cs : List Nat} (h : ∀ c ∈ cs, isN c) (x y : Nat) : ∀ c ∈ subL cs x y, isN c := fun c hc => h c (by unfold subL at hc; first | exact List.mem_of_mem_drop (List.mem_of_mem_take hc) | exact List.mem_of_mem_take (List.mem_of_mem_drop hc))
section
variable {w w' : World}
set_option maxHeartbeats 1000000 in
theorem values_0 (w : World) : Calls Tryz.prog 165 #[.slice none 0 0] w fun e w' => e = .returned (.func (.func 213) #[] #[.pointer (some ⟨w.heap.size, 0, none⟩)]) ∧ w' = w.alloc (.cells #[.slice none 0 0] 53) := by
  go_enter Tryz.func165, Tryz.ntmps165
  go_wp2_with fail
  go_ret
  exact ⟨rfl, rfl⟩
end
theorem encS_le (cs : List Nat) : (encS cs).size ≤ 4 * cs.length := by
  have := runesBytes_size_le (cs.map Int.ofNat)
  rwa [List.length_map] at this
/-- The cells of a buffer behind a deletion of x .. y. -/
def takeS (S : BS) (x y : Nat) : BS := { S with pt := delN x y S.pt, lo := delN x y S.lo, hi := delN x y S.hi, mark := delN x y S.mark, tick := S.tick + 1, empty := false }
section
variable {w w' : World} {b mm : Nat} {Fg Fl : Nat → Prop} {pr ev : Int} {S S' : BS} {cs : List Nat} {L : LgS}
set_option maxRecDepth 100000 in
set_option maxHeartbeats 8000000 in
theorem gtake {N : Nat} (hT : Tabs N w) (hR : Rules N w) (h : PlainX w b Fg Fl mm pr ev S cs L) (hlg : S.logs = true) (hNb : N ≤ b) (hNg : ∀ k, Fg k → N ≤ k) (hNl : ∀ k, Fl k → N ≤ k)
    (hpt : 1 ≤ S.pt ∧ S.pt ≤ 1000000) (hlo : S.lo ≤ 1000000) (hhi : S.hi ≤ 1000000) (hmk : S.mark ≤ 1000000) (htk : S.tick ≤ 1000000)
    (x y : Nat) (hx1 : 1 ≤ x) (hxy : x < y) (hy : y ≤ cs.length + 1) (hrm : Room L (y - x + 4)) :
    Calls Tryz.prog 120 #[pAt b, .int .i64 x, .int .i64 y] w fun r w' => r = .returned (.tuple #[]) ∧ ∃ q : Nat, q ≤ y - x + 3 ∧
      PlainTo w b Fg Fl mm pr ev S (takeS S x y) (delC cs x y) ⟨L.G, noteO S L.O (delChg x (encS (subL cs x y))), L.ch, L.co + q, L.nw + q⟩ w' := by
  obtain ⟨pt, lo, hi, mark, marked, ro, fo, tick, clean, t, m, p, o, l, logs, empty, lock, saved, tokens⟩ := S
  obtain ⟨G, O, ch, co, nw⟩ := L
  simp only at hlg hpt hlo hhi hmk htk
  subst hlg
  have hsv := h.sv
  simp only at hsv
  subst hsv
  have hle := h.gap.le
  have hcn := h.gap.cn
  have d0 : ((x : Int) == (y : Int)) = false := by simp; omega
  have s2 : IntKind.i64.wrap ((tick : Int) + 1) = ((tick + 1 : Nat) : Int) := by rw [IntWalk.i64_in _ (by omega)]; omega
  have q10 : w.cell? ⟨b, 10, none⟩ = some (pAt m) := h.blk.cell (j := 10) rfl
  have HN := Lib.hid (⟨hx1, hxy, hy, hle, hcn⟩ : _ ∧ _ ∧ _ ∧ _ ∧ _)
  have HT := Lib.hid hT
  have HR := Lib.hid hR
  have H := Lib.hid h
  have HB := Lib.hid (⟨hNb, hNg, hNl, hpt, hlo, hhi, hmk, htk, hrm⟩ : _ ∧ _ ∧ _ ∧ _ ∧ _ ∧ _ ∧ _ ∧ _ ∧ _)
  clear hT hR h hNb hNg hNl hpt hlo hhi hmk htk hrm hx1 hxy hy hle hcn
  go_enter Tryz.func120, Tryz.ntmps120
  go_wp2_with fail
  refine (min0 x y H.out.mks).mono ?_
  rintro e wa ⟨rfl, hba⟩
  have Ba := Lib.hid hba
  clear hba q10
  go_wp2_with fail
  refine (values_0 wa).mono ?_
  rintro e wb ⟨rfl, rfl⟩
  have Bb := Lib.hid (up2 Ba.out (below1 wa (.cells #[.slice none 0 0] 53)))
  have hcl : (wa.alloc (.cells #[.slice none 0 0] 53)).cell? ⟨wa.heap.size, 0, none⟩ = some (.slice none 0 0) := by simp
  have HCL := Lib.hid hcl
  clear hcl
  go_wp2_with fail
  refine (sorted0 HCL.out).mono ?_
  rintro e wc ⟨rfl, hbc⟩
  have Bc := Lib.hid (up2 Bb.out hbc)
  clear hbc HCL
  go_wp2_with fail
  go_loopw [29] (fun va wr => va = .int .i64 0 ∧ wc = wr) (fun _ _ => 0)
  case atStart => exact ⟨rfl, rfl⟩
  case round =>
    obtain ⟨rfl, rfl⟩ := hrel
    have H1 := Lib.hid (H.out.up Bc.out)
    have q11 : wc.cell? ⟨b, 11, none⟩ = some (pAt p) := H1.out.blk.cell (j := 11) rfl
    go_wp2_with fail
    refine (pspans0 x y (by have := HN.out; omega) (by have := HN.out; omega) (by have := HN.out; omega) H1.out.prs).mono ?_
    rintro e w' ⟨rfl, rfl⟩
    clear q11
    go_wp2_with fail
    go_loopw [56] (fun va wr => va = .int .i64 0 ∧ wc = wr) (fun _ _ => 0)
    case atStart => exact ⟨rfl, rfl⟩
    case round =>
      obtain ⟨rfl, rfl⟩ := hrel
      have q9 : wc.cell? ⟨b, 9, none⟩ = some (pAt t) := H1.out.blk.cell (j := 9) rfl
      obtain ⟨g, hgr⟩ := H1.out.gap.r
      have HSL := Lib.hid (gslice_ok hgr x y HN.out.1 (Nat.le_of_lt HN.out.2.1) HN.out.2.2.1)
      clear hgr
      go_wp2_with fail
      refine HSL.out.mono ?_
      rintro e w1 ⟨rfl, hb1⟩
      clear q9 HSL
      have hcs := chrs_encS (subL_isN HN.out.2.2.2.2 x y)
      have hlen : (subL cs x y).length = y - x := by have := HN.out; unfold subL; simp; omega
      have HPR := Lib.hid (show priceC (delChg x (encS (subL cs x y))) = 1 + (y - x) by unfold priceC; rw [if_pos rfl, hcs.1, hlen])
      have HCK := Lib.hid (show ChgOk (delChg x (encS (subL cs x y))) from ⟨by simp, fun _ => ⟨by have := HN.out; simp; omega, by have := HN.out; simp; omega⟩, fun e => by simp at e, by simp, fun _ => ⟨hcs.2, by show (encS (subL cs x y)).size ≤ 1000000; have := encS_le (subL cs x y); have := HN.out; omega⟩⟩)
      have R1 := Lib.hid (HR.out.up (up2 Bc.out hb1))
      have T1 := Lib.hid (HT.out.up (up2 Bc.out hb1))
      have B1 := Lib.hid (up2 Bc.out hb1)
      have z1 := B1.out.size
      have H1 := Lib.hid (H.out.up B1.out)
      clear hb1 hcs hlen H HR HT Ba Bb Bc
      go_wp2_with fail
      refine (gnote (F := Fl) (c := delChg x (encS (subL cs x y))) T1.out R1.out H1.out.blk rfl (by have := HB.out; dsimp only; omega) HB.out.2.2.1 HB.out.1 H1.out.fl.1 H1.out.log (HCK.out) (by have := HB.out.2.2.2.2.2.2.2.2.o; dsimp only at this ⊢; omega) HB.out.2.2.2.2.2.2.2.2.n0 (by have := HB.out.2.2.2.2.2.2.2.2.n1; rw [HPR.out]; dsimp only at this ⊢; omega) HB.out.2.2.2.2.2.2.2.2.c0 (by have := HB.out.2.2.2.2.2.2.2.2.c1; dsimp only at this ⊢; omega)).mono ?_
      rintro e w2 ⟨rfl, ho2, hk2, q, hq, hl2⟩
      have hq3 : q ≤ y - x + 3 := by rw [HPR.out] at hq; omega
      have h1 := H1.out
      have K2 := Lib.hid (show BufB w2 b ⟨pt, lo, hi, mark, marked, ro, fo, tick, clean, t, m, p, o, l, true, false, lock, .slice none 0 0, tokens⟩ from hk2)
      have G2 := Lib.hid (show GapF1 w2 t Fg cs from h1.gap.only ho2 (fun k hk _ e => e.elim (fun e => h1.fg.1 (e ▸ hk)) (h1.fgl k hk)))
      have M2 := Lib.hid (show Mk0 w2 m mm from h1.mks.only ho2 (fun e => e.elim (fun e => h1.ne.1 e.symm) h1.fl.2.1) (fun e => e.elim (fun e => h1.ne.2.1 e.symm) h1.fl.2.2.1))
      have P2 := Lib.hid (show Blk w2 p 183 prC from h1.prs.only ho2 (fun e => e.elim (fun e => h1.ne.2.2.1 e.symm) h1.fl.2.2.2.1))
      have X2 := Lib.hid (show Blk w2 o 186 (ovC pr ev) from h1.ovs.only ho2 (fun e => e.elim (fun e => h1.ne.2.2.2.1 e.symm) h1.fl.2.2.2.2))
      have T2 := Lib.hid (T1.out.only ho2 (fun k hk => hk.elim (fun e => e ▸ HB.out.1) (HB.out.2.2.1 k)))
      have L2 := Lib.hid (show LogF1 w2 l (fun k => grow Fl w1.heap.size k ∧ k < w2.heap.size) G (noteO ⟨pt, lo, hi, mark, marked, ro, fo, tick, clean, t, m, p, o, l, true, empty, lock, .slice none 0 0, tokens⟩ O (delChg x (encS (subL cs x y)))) ch (co + q) (nw + q) from LogF1.bound hl2)
      have z2 := ho2.size
      have Z2 := Lib.hid (⟨h1.fgl, h1.fg, h1.fl, h1.ne, h1.bg, h1.bl, h1.blk.lt, h1.mks.lt, h1.prs.lt, h1.ovs.lt, hq3⟩ : _ ∧ _ ∧ _ ∧ _ ∧ _ ∧ _ ∧ _ ∧ _ ∧ _ ∧ _ ∧ _)
      have O2 := Lib.hid (show Only (edFoot b Fg Fl ⟨pt, lo, hi, mark, marked, ro, fo, tick, clean, t, m, p, o, l, true, empty, lock, .slice none 0 0, tokens⟩) w w2 from (Only.of_below B1.out).trans (ho2.mono (fun k hk => hk.elim .inl (fun e => .inr (.inr (.inl e))))))
      clear ho2 hk2 hl2 h1 hq hq3 R1 T1 H1 B1
      have q9 : w2.cell? ⟨b, 9, none⟩ = some (pAt t) := K2.out.cell (j := 9) rfl
      go_wp2_with fail
      refine (gdeleteF G2.out x y HN.out.1 (Nat.le_of_lt HN.out.2.1) HN.out.2.2.1).mono ?_
      rintro e w3 ⟨rfl, hg3, ho3⟩
      have z3 := ho3.size
      have z := Z2.out
      have K3 := Lib.hid (K2.out.only ho3 z.2.1.1)
      have M3 := Lib.hid (M2.out.only ho3 z.2.1.2.1 z.2.1.2.2.1)
      have P3 := Lib.hid (P2.out.only ho3 z.2.1.2.2.2.1)
      have X3 := Lib.hid (X2.out.only ho3 z.2.1.2.2.2.2)
      have L3 := Lib.hid (L2.out.only ho3 (fun k hk _ e => hk.1.elim (z.1 k e) (fun e2 => by have := z.2.2.2.2.1 k e; omega)))
      have G3 := Lib.hid (show GapF1 w3 t (fun k => grow Fg w2.heap.size k ∧ k < w3.heap.size) (delC cs x y) from hg3.bound)
      have O3 := Lib.hid (O2.out.trans (ho3.mono (fun k hk => .inr (.inl hk))))
      clear hg3 ho3 z K2 M2 P2 X2 G2 L2 O2 T2 q9
      have q10 : w3.cell? ⟨b, 10, none⟩ = some (pAt m) := K3.out.cell (j := 10) rfl
      go_wp2_with fail
      refine (mdel0 x y (by have := HN.out; omega) (by have := HN.out; omega) (by have := HN.out; omega) M3.out).mono ?_
      rintro e w4 ⟨rfl, hb4⟩
      have K4 := Lib.hid (K3.out.up hb4)
      have M4 := Lib.hid (M3.out.up hb4)
      have P4 := Lib.hid (P3.out.up hb4)
      have X4 := Lib.hid (X3.out.up hb4)
      have L4 := Lib.hid (L3.out.up hb4)
      have G4 := Lib.hid (G3.out.up hb4)
      have O4 := Lib.hid (O3.out.trans (Only.of_below hb4))
      have z4 := hb4.size
      clear hb4 K3 M3 P3 X3 L3 G3 O3 q10
      have q11 : w4.cell? ⟨b, 11, none⟩ = some (pAt p) := K4.out.cell (j := 11) rfl
      go_wp2_with fail
      refine (pdel0 x y (by have := HN.out; omega) (by have := HN.out; omega) (by have := HN.out; omega) P4.out).mono ?_
      rintro e w5 ⟨rfl, ho5, hp5⟩
      have z := Z2.out
      have z5 := ho5.size
      have K5 := Lib.hid (K4.out.only ho5 z.2.2.2.1.2.2.1)
      have M5 := Lib.hid (M4.out.only ho5 (fun e => z.2.2.2.1.2.2.2.2.1 e.symm) (fun e => z.2.2.2.1.2.2.2.2.2.1 e.symm))
      have X5 := Lib.hid (X4.out.only ho5 (fun e => z.2.2.2.1.2.2.2.2.2.2.1 e.symm))
      have L5 := Lib.hid (L4.out.only ho5 (fun k hk _ e => hk.1.elim (fun e2 => z.2.2.1.2.2.2.1 (e ▸ e2)) (fun e2 => by have := z.2.2.2.2.2.2.2.2.1; omega)))
      have G5 := Lib.hid (G4.out.only ho5 (fun k hk _ e => hk.1.elim (fun e2 => z.2.1.2.2.2.1 (e ▸ e2)) (fun e2 => by have := z.2.2.2.2.2.2.2.2.1; omega)))
      have O5 := Lib.hid (O4.out.trans (ho5.mono (fun k hk => .inr (.inr (.inr (.inl hk))))))
      have P5 := Lib.hid hp5
      clear ho5 hp5 z K4 M4 P4 X4 L4 G4 O4 q11
      have q12 : w5.cell? ⟨b, 12, none⟩ = some (pAt o) := K5.out.cell (j := 12) rfl
      go_wp2_with fail
      refine (odel0 pr ev x y (by have := HN.out; omega) (by have := HN.out; omega) (by have := HN.out; omega) X5.out).mono ?_
      rintro e w6 ⟨rfl, ho6, hx6⟩
      have z := Z2.out
      have z6 := ho6.size
      have K6 := Lib.hid (K5.out.only ho6 z.2.2.2.1.2.2.2.1)
      have M6 := Lib.hid (M5.out.only ho6 (fun e => z.2.2.2.1.2.2.2.2.2.2.2.1 e.symm) (fun e => z.2.2.2.1.2.2.2.2.2.2.2.2 e.symm))
      have P6 := Lib.hid (P5.out.only ho6 z.2.2.2.1.2.2.2.2.2.2.1)
      have L6 := Lib.hid (L5.out.only ho6 (fun k hk _ e => hk.1.elim (fun e2 => z.2.2.1.2.2.2.2 (e ▸ e2)) (fun e2 => by have := z.2.2.2.2.2.2.2.2.2.1; omega)))
      have G6 := Lib.hid (G5.out.only ho6 (fun k hk _ e => hk.1.elim (fun e2 => z.2.1.2.2.2.2 (e ▸ e2)) (fun e2 => by have := z.2.2.2.2.2.2.2.2.2.1; omega)))
      have O6 := Lib.hid (O5.out.trans (ho6.mono (fun k hk => .inr (.inr (.inr (.inr hk))))))
      have X6 := Lib.hid hx6
      clear ho6 hx6 z K5 M5 P5 X5 L5 G5 O5 q12
      go_wp2_with fail
      refine (deleted_ok x y (by omega) (by have := HN.out; omega) (by have := HN.out; omega) w6).mono ?_
      rintro e w7 ⟨cp, rfl, hb7, hE⟩
      have K7 := Lib.hid (K6.out.up hb7)
      have O7 := Lib.hid (O6.out.trans (Only.of_below hb7))
      have B7 := Lib.hid hb7
      have z7 := hb7.size
      have E7 := Lib.hid hE
      clear hb7 hE K6 O6
      go_wp2_with fail
      refine (moves0_ok K7.out rfl E7.out false (by have := HB.out; dsimp only; omega) (by have := HB.out; dsimp only; omega) (by have := HB.out; dsimp only; omega) (by have := HB.out; dsimp only; omega) (delN x y pt) (delN x y lo) (delN x y hi) (delN x y mark) (delF_nat _ _ _ (Nat.le_of_lt HN.out.2.1) _) (delF_nat _ _ _ (Nat.le_of_lt HN.out.2.1) _) (delF_nat _ _ _ (Nat.le_of_lt HN.out.2.1) _) (delF_nat _ _ _ (Nat.le_of_lt HN.out.2.1) _)).mono ?_
      rintro e w8 ⟨rfl, ho8, hk8⟩
      have K8 := Lib.hid (show BufB w8 b ⟨delN x y pt, delN x y lo, delN x y hi, delN x y mark, marked, ro, fo, tick, clean, t, m, p, o, l, true, false, lock, .slice none 0 0, tokens⟩ from hk8)
      have z := Z2.out
      have z8 := ho8.size
      have M8 := Lib.hid ((M6.out.up B7.out).only ho8 (fun e => z.2.2.2.1.1 e.symm) (fun e => z.2.2.2.1.2.1 e.symm))
      have P8 := Lib.hid ((P6.out.up B7.out).only ho8 (fun e => z.2.2.2.1.2.2.1 e.symm))
      have X8 := Lib.hid ((X6.out.up B7.out).only ho8 (fun e => z.2.2.2.1.2.2.2.1 e.symm))
      have L8 := Lib.hid ((L6.out.up B7.out).only ho8 (fun k hk _ e => hk.1.elim (fun e2 => z.2.2.1.1 (e ▸ e2)) (fun e2 => by have := z.2.2.2.2.2.2.1; omega)))
      have G8 := Lib.hid ((G6.out.up B7.out).only ho8 (fun k hk _ e => hk.1.elim (fun e2 => z.2.1.1 (e ▸ e2)) (fun e2 => by have := z.2.2.2.2.2.2.1; omega)))
      have O8 := Lib.hid (O7.out.trans (ho8.mono (fun k hk => .inl hk)))
      clear ho8 hk8 z K7 M6 P6 X6 L6 G6 O7 B7 E7
      have q7 : w8.cell? ⟨b, 7, none⟩ = some (.int .i64 (tick : Int)) := K8.out.cell (j := 7) rfl
      have f7 := K8.out.fz 7
      go_wp2_with fail
      go_end0
      have hk9 := K8.out.set (j := 7) (by simp) (.int .i64 ((tick + 1 : Nat) : Int))
      have ho9 : Only (fun k => k = b) w8 (w8.setCell ⟨b, 7, none⟩ (.int .i64 ((tick + 1 : Nat) : Int))) := (Only.refl (fun k => k = b) w8).setCell (p := ⟨b, 7, none⟩) rfl _
      obtain ⟨y1, y2, y3, y4, y5, y6, y7, y8, y9, y10, y11⟩ := Z2.out
      unfold takeS
      dsimp only at y2 y3 y4 y8 y9 y10 ⊢
      refine ⟨rfl, q, y11, O8.out.setCell (p := ⟨b, 7, none⟩) (.inl rfl) _, (fun k => grow Fg w2.heap.size k ∧ k < w3.heap.size), (fun k => grow Fl w1.heap.size k ∧ k < w2.heap.size), ⟨hk9, ?_, ?_, ?_, ?_, ?_, rfl, ?_, ?_, ?_, y4, ?_, ?_⟩, ?_, ?_⟩
      · exact G8.out.only ho9 (fun k hk _ e => hk.1.elim (fun e2 => y2.1 (e ▸ e2)) (fun e2 => by omega))
      · exact L8.out.only ho9 (fun k hk _ e => hk.1.elim (fun e2 => y3.1 (e ▸ e2)) (fun e2 => by omega))
      · exact M8.out.only ho9 (fun e => y4.1 e.symm) (fun e => y4.2.1 e.symm)
      · exact P8.out.only ho9 (fun e => y4.2.2.1 e.symm)
      · exact X8.out.only ho9 (fun e => y4.2.2.2.1 e.symm)
      · intro k hk hk2
        rcases hk.1 with e | e
        · rcases hk2.1 with e2 | e2
          · exact y1 k e e2
          · have := y5 k e; omega
        · have := hk2.2; omega
      · dsimp only
        exact ⟨fun e => e.1.elim y2.1 (fun e => by omega), fun e => e.1.elim y2.2.1 (fun e => by omega), fun e => e.1.elim y2.2.2.1 (fun e => by omega), fun e => e.1.elim y2.2.2.2.1 (fun e => by omega), fun e => e.1.elim y2.2.2.2.2 (fun e => by omega)⟩
      · dsimp only
        exact ⟨fun e => e.1.elim y3.1 (fun e => by omega), fun e => e.1.elim y3.2.1 (fun e => by omega), fun e => e.1.elim y3.2.2.1 (fun e => by omega), fun e => e.1.elim y3.2.2.2.1 (fun e => by omega), fun e => e.1.elim y3.2.2.2.2 (fun e => by omega)⟩
      · intro k hk; have := hk.2; simp; omega
      · intro k hk; have := hk.2; simp; omega
      · intro k hk; exact hk.1.elim .inl (fun e => .inr (by omega))
      · intro k hk; exact hk.1.elim .inl (fun e => .inr (by omega))
end
end Go.Proofs.YtnbccoelbfgmgaaGreatDoor
/- package buffer: partOpen at empty properties. -/
namespace Go.Proofs.YtnbccoelbfgmgaaGreatDoor
open Go.RowKit Go.Lib
set_option linter.unusedVariables false
set_option linter.unusedSimpArgs false
def partB (S : BS) : Bool := S.fo || !S.ro
section
variable {w w' : World} {b : Nat} {S : BS}
set_option maxRecDepth 100000 in
set_option maxHeartbeats 2000000 in
theorem partOpen1_ok {k0 k1 k2 : Nat} (h : BufB w b S) (hp : Blk w S.p 183 prC) (x y : Int) (hx : 1 ≤ x) (hxy : x ≤ y) (hy : y ≤ 65537) (h0 : w.cell? ⟨k0, 0, none⟩ = some (pAt b)) (h1 : w.cell? ⟨k1, 0, none⟩ = some (.int .i64 x)) (h2 : w.cell? ⟨k2, 0, none⟩ = some (.int .i64 y)) :
    Calls Tryz.prog 187 #[pAt k0, pAt k1, pAt k2] w fun r w2 => r = .returned (.bool (partB S)) ∧ Below w.heap.size w w2 := by
  have c5 : w.cell? ⟨b, 5, none⟩ = some (.bool S.ro) := h.cell (j := 5) rfl
  have c6 : w.cell? ⟨b, 6, none⟩ = some (.bool S.fo) := h.cell (j := 6) rfl
  have c11 : w.cell? ⟨b, 11, none⟩ = some (pAt S.p) := h.cell (j := 11) rfl
  have HS := Lib.hid (fun (W : World) (hb : Below w.heap.size w W) => pspans0 x y hx hxy hy (hp.up hb))
  unfold partB
  clear h hp hx hxy hy
  cases hf : S.fo with
  | true =>
    rw [hf] at c6
    go_enter Tryz.func187, Tryz.ntmps187
    go_wp2_with fail
    go_ret
    exact ⟨rfl, Below.refl _ _⟩
  | false =>
    rw [hf] at c6
    rw [Bool.false_or]
    generalize S.ro = ro at *
    generalize S.p = p at *
    go_enter Tryz.func187, Tryz.ntmps187
    go_wp2_with fail
    have X0 : ∀ X : UpW w.heap.size w, X.w.cell? ⟨k0, 0, none⟩ = some (pAt b) := fun X => cell_up h0 X.up
    have X1 : ∀ X : UpW w.heap.size w, X.w.cell? ⟨k1, 0, none⟩ = some (.int .i64 x) := fun X => cell_up h1 X.up
    have X2 : ∀ X : UpW w.heap.size w, X.w.cell? ⟨k2, 0, none⟩ = some (.int .i64 y) := fun X => cell_up h2 X.up
    have X3 : ∀ X : UpW w.heap.size w, X.w.cell? ⟨b, 11, none⟩ = some (pAt p) := fun X => cell_up c11 X.up
    refine wp_region_mix w.heap.size 9 [([0, 1, 2, 3, 4, 5, 8], 6)] [7] (by kernel_rfl) (fun c d v a w h => by cases d <;> exact h) (by kernel_rfl) ?_
    simp only [wpMix, pk_nil, pk_cons, pushAt_zero, pushAt_succ, List.drop_succ_cons, List.drop_zero]
    repeat (go_big_quiet_step (fail))
    refine wpQuiet_nil ?_
    clear X0 X1 X2 X3
    go_wp2_with fail
    refine (HS.out _ (Below.refl _ w).drew).mono ?_
    rintro e w' ⟨rfl, rfl⟩
    go_wp2_with fail
    refine thenQ_normal ⟨⟨⟨_, (Below.refl _ w).drew⟩, rfl⟩, ?_⟩
    repeat (go_big_quiet_step (fail))
    refine wpQuiet_nil ?_
    have c5' : w.drew.cell? ⟨b, 5, none⟩ = some (.bool ro) := c5
    have h0' : w.drew.cell? ⟨k0, 0, none⟩ = some (pAt b) := h0
    go_wp2_with fail
    go_loopw [19] (fun va wr => va = .int .i64 0 ∧ w.drew = wr) (fun _ _ => 0)
    case atStart => exact ⟨rfl, rfl⟩
    case round =>
      obtain ⟨rfl, rfl⟩ := hrel
      go_wp2_with fail
      go_ret
      exact ⟨rfl, (Below.refl _ w).drew⟩
set_option maxHeartbeats 1000000 in
theorem partOpen_ok (h : BufB w b S) (hp : Blk w S.p 183 prC) (x y : Int) : Calls Tryz.prog 135 #[pAt b, .int .i64 x, .int .i64 y] w fun r w' =>
    ∃ ke kf, r = .returned (unlC ke kf (if partB S then 0 else 14)).val ∧ Below w.heap.size w w' ∧ ChkAt w' (1 ≤ x ∧ x ≤ y ∧ y ≤ 65537) (unlC ke kf (if partB S then 0 else 14)) := by
  have HB := Lib.hid h
  have HP := Lib.hid hp
  clear h hp
  obtain ⟨E, hE⟩ : ∃ E : Int, (if partB S then (0 : Int) else 14) = E := ⟨_, rfl⟩
  rw [hE]
  have HE := Lib.hid hE
  clear hE
  go_enter Tryz.func135, Tryz.ntmps135
  go_wp2_with fail
  have hb3 := below3 w (.cells #[pAt b] 26) (.cells #[.int .i64 x] 3) (.cells #[.int .i64 y] 3)
  obtain ⟨a0, a1, a2⟩ := al3 w (pAt b) (.int .i64 x) (.int .i64 y) 26 3 3
  generalize ((w.alloc (.cells #[pAt b] 26)).alloc (.cells #[.int .i64 x] 3)).alloc (.cells #[.int .i64 y] 3) = W at *
  refine (unless_ok 14 187 #[] #[pAt w.heap.size, pAt (w.heap.size + 1), pAt (w.heap.size + 2)] W).mono ?_
  rintro r w1 ⟨rfl, hb1, he, hf⟩
  go_wp2_with fail
  go_ret
  refine ⟨_, _, rfl, up2 hb3 hb1, HE.out ▸ ChkAt.unless (p := partB S) (enters_mk Tryz.func187 (by kernel_rfl) rfl) he hf fun hq w2 hb2 => ?_⟩
  exact partOpen1_ok (((HB.out.up hb3).up hb1).up hb2) (((HP.out.up hb3).up hb1).up hb2) x y hq.1 hq.2.1 hq.2.2 (cell_up a0 (up2 hb1 hb2)) (cell_up a1 (up2 hb1 hb2)) (cell_up a2 (up2 hb1 hb2))
end
end Go.Proofs.YtnbccoelbfgmgaaGreatDoor
