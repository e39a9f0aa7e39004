/- copyistlaw18.OversWins returns true. -/
import Derived.Test.YthjkdeocdhdkaaaOvVl
import Derived.Test.YthjkdeocdhdkaaaOvInA
import Derived.Test.YthjkdeocdhdkaaaOvEq
import Derived.Deep.DeepCutAuto
namespace Go.Proofs.Ythjkdeocdhdkaaa
open Go.RowKit
set_option linter.unusedVariables false
set_option linter.unusedSimpArgs false
section
variable {D l : List OverD} {nx pr at_ nm : Int} {x : OverD}
theorem ends_of (hw : WfD D nx) (hx : x ∈ D) : endsD D x.id = some x := by
  cases he : endsD D x.id with
  | none =>
    unfold endsD at he
    have := List.find?_eq_none.1 he x hx
    simp at this
  | some y =>
    obtain ⟨h1, h2⟩ := endsD_mem he
    rw [inj_of_nodup hw.nodup h1 hx h2]
theorem getD_of (hw : WfD D nx) (hx : x ∈ D) (nm : Int) : getD D x.id nm = valP x.ps nm := by
  unfold getD; rw [ends_of hw hx]
def winF (l : List OverD) (nm : Int) : Option OverD := l.reverse.find? (fun x => (valP x.ps nm).isSome)
def winI (l : List OverD) (nm : Int) : Int := match winF l nm with | some x => x.id | none => -1
theorem winF_step {k : Nat} (hx : l[k]? = some x) : winF (l.take (k + 1)) nm = if (valP x.ps nm).isSome then some x else winF (l.take k) nm := by
  unfold winF
  rw [List.take_add_one, hx, Option.toList_some, List.reverse_append, List.reverse_singleton, List.singleton_append, List.find?_cons]
  cases (valP x.ps nm).isSome <;> rfl
theorem winI_yes {k : Nat} (hx : l[k]? = some x) {p : Int × Int} (h : valP x.ps nm = some p) : winI (l.take (k + 1)) nm = x.id := by
  unfold winI; rw [winF_step hx, h]; rfl
theorem winI_no {k : Nat} (hx : l[k]? = some x) (h : valP x.ps nm = none) : winI (l.take (k + 1)) nm = winI (l.take k) nm := by
  unfold winI; rw [winF_step hx, h]; rfl
def lastR (pr : Int) (l : List OverD) (k : Nat) : Int := if k = 0 then 0 else match l[k - 1]? with | some x => rankI pr x.ps | none => 0
theorem lastR_succ {k : Nat} (hx : l[k]? = some x) : lastR pr l (k + 1) = rankI pr x.ps := by
  unfold lastR; rw [if_neg (by omega), Nat.add_sub_cancel, hx]
theorem rank_le (hn : (D.map OverD.id).Nodup) {k : Nat} (hk : 0 < k) (hx : (sortD pr D)[k]? = some x) : lastR pr (sortD pr D) k ≤ rankI pr x.ps := by
  have hp := sortD_pw (pr := pr) hn
  obtain ⟨hk1, he⟩ := List.getElem?_eq_some_iff.1 hx
  have h1 := List.pairwise_iff_getElem.1 hp (k - 1) k (by omega) hk1 (by omega)
  unfold lastR
  rw [if_neg (by omega), List.getElem?_eq_getElem (by omega : k - 1 < (sortD pr D).length)]
  rw [he, cfD_lt] at h1
  simp only
  omega
theorem cnt_step {k : Nat} (q : OverD → Bool) (hx : D[k]? = some x) : ((D.take (k + 1)).filter q).length = ((D.take k).filter q).length + (q x).toNat := by
  rw [List.take_add_one, hx, Option.toList_some, List.filter_append, List.length_append]
  cases h : q x <;> simp [h]
end
set_option maxRecDepth 100000 in
set_option maxHeartbeats 4000000 in
theorem wins18_some (A : Option Addr) (cap : Nat) (l : List Act18) (at_ nm : Int) (w : World) (hl : l.length ≤ 60) (hA : RSl encA w A l) :
    Calls Try.prog 8 #[.slice A l.length cap, .int .i64 at_, .int .i64 nm] w fun e w' => e = .returned (.bool true) ∧ Below w.heap.size w w' := by
  have HA := Lib.hid hA
  clear hA
  have hl' : (l.length : Int) ≤ 60 := by omega
  go_enter Try.func8, Try.ntmps8
  go_wp2_with fail
  refine (lives_true w).mono ?_
  rintro e w1 ⟨rfl, hB1⟩
  go_wp2_with fail
  refine (s_new 1 2 w1).mono ?_
  rintro e w2 ⟨ob, rfl, s2, hB2⟩
  have HST := Lib.hid (ActSt.start s2 hB2 hB1)
  clear s2 hB1 hB2
  go_wp2_with fail
  go_loopw [8] (fun vi wz => ∃ (j : Nat) (D : List OverD) (nx : Int), j ≤ l.length ∧ vi = .int .i64 j ∧ ActSt w wz ob 1 2 D nx j) (fun vi _ => l.length - (intOf vi).toNat)
  case atStart => exact ⟨0, [], 0, by omega, rfl, HST.out⟩
  case round =>
    clear HST
    obtain ⟨j, D, nx, hj, rfl, hst⟩ := hrel
    by_cases hlt : j < l.length
    · obtain ⟨⟨ki, id, af, at1, anm, an, afr, are, avk, avn⟩, hact⟩ : ∃ x, l[j]? = some x := ⟨_, List.getElem?_eq_getElem hlt⟩
      obtain ⟨g, o, hAe, hg, hcs⟩ := (HA.out.up hst.bel).at_ eltA hact
      have k0 := hcs 0 _ rfl
      have k1 := hcs 1 _ rfl
      have k2 := hcs 2 _ rfl
      have k3 := hcs 3 _ rfl
      have k4 := hcs 4 _ rfl
      have k5 := hcs 5 _ rfl
      have k6 := hcs 6 _ rfl
      have k7 := hcs 7 _ rfl
      have k8 := hcs 8 _ rfl
      have k9 := hcs 9 _ rfl
      simp only [← Nat.add_assoc, Nat.add_zero] at k0 k1 k2 k3 k4 k5 k6 k7 k8 k9
      have hlt' : (j : Int) < l.length := by omega
      have HDO := Lib.hid (act_do hst ⟨ki, id, af, at1, anm, an, afr, are, avk, avn⟩ (by omega))
      clear hact hcs hst hg
      subst hAe
      go_wp2_with fail
      refine HDO.out.mono ?_
      rintro e w5 ⟨gv, rfl, h5⟩
      have H5 := Lib.hid h5
      clear h5 HDO
      go_wp2_with fail
      exact ⟨⟨j + 1, _, _, by omega, by go_num, H5.out⟩, by simp [intOf]; omega⟩
    · obtain rfl : j = l.length := by omega
      clear hlt
      have hwf := hst.wf
      obtain ⟨wA, rfl⟩ : ∃ x, x = wr := ⟨_, rfl⟩
      go_wp2_with fail
      refine (st_all hst.st hwf).mono ?_
      rintro e w5 ⟨v5, M, rfl, ha5, hb5⟩
      have hst5 := hst.up hb5
      obtain ⟨A5, c5, rfl, hA51, hA52, hr5⟩ := ha5.own.shape eltO
      have hMl : M.length = D.length := by have := congrArg List.length ha5.dat; simpa using this
      have hDl := hwf.len
      have HD := Lib.hid ha5.dat
      have HR5 := Lib.hid hr5
      have HST5 := Lib.hid hst5
      have HML := Lib.hid hMl
      have HWF := Lib.hid hwf
      clear ha5 hb5 hst5 hst hr5 hMl hwf
      rw [HML.out]
      go_wp2_with fail
      refine (s_at HST5.out.st HWF.out at_).mono ?_
      rintro e w6 ⟨v6, rfl, o6, b6⟩
      obtain ⟨sl, hsl⟩ : ∃ sl, sl = sortD 1 (D.filter (covB at_)) := ⟨_, rfl⟩
      have hat : atI 1 D at_ = sl.map OverD.id := by rw [hsl]; rfl
      rw [hat] at o6
      have hsp : sl.Perm (D.filter (covB at_)) := by rw [hsl]; exact sortD_perm _ _
      have hsll := hsp.length_eq
      have hfl := List.length_filter_le (covB at_) D
      obtain ⟨A6, c6, hv6, hA61, hA62, hr6⟩ := o6.shape eltI
      have HR6 := Lib.hid hr6
      have HR5' := Lib.hid (HR5.out.up b6)
      have HST6 := Lib.hid (HST5.out.up b6)
      have HSL := Lib.hid hsl
      have HSP := Lib.hid hsp
      have HLL := Lib.hid hsll
      rw [List.length_map] at hv6 hA61
      subst hv6
      clear o6 b6 hat hsp hr6 hsl HR5 HST5 hsll
      go_wp2_with fail
      go_loopw [11, 13] (fun vn vi wz => ∃ k : Nat, k ≤ D.length ∧ vi = .int .i64 k ∧ vn = .int .i64 ((D.take k).filter (covB at_)).length ∧ wz = w6) (fun _ vi _ => D.length - (intOf vi).toNat)
      case atStart => exact ⟨0, by omega, rfl, rfl, rfl⟩
      case round =>
        obtain ⟨k, hk, rfl, rfl, rfl⟩ := hrel
        by_cases hlt : k < D.length
        · obtain ⟨x, hx⟩ : ∃ x, M[k]? = some x := ⟨_, List.getElem?_eq_getElem (by rw [HML.out]; exact hlt)⟩
          have hdx : D[k]? = some x.dat := by rw [← HD.out, List.getElem?_map, hx]; rfl
          obtain ⟨g, o, hAe, hg, hc⟩ := HR5'.out.at_ eltO hx
          have k1 := hc 1 _ rfl
          have k2 := hc 2 _ rfl
          simp only [← Nat.add_assoc, Nat.add_zero] at k1 k2
          have hcs := cnt_step (covB at_) hdx
          have hcl := List.length_filter_le (covB at_) (D.take k)
          have hcl2 := List.length_take_le k D
          obtain ⟨id, f, t, fr, re, xA, xc, xps, xg⟩ := x
          dsimp only [OverE.dat] at k1 k2 hcs
          have hcv : covB at_ ⟨id, f, t, fr, re, xps⟩ = (decide (f ≤ at_) && decide (at_ < t)) := rfl
          rw [hcv] at hcs
          have hlt' : (k : Int) < D.length := by omega
          generalize ((D.take k).filter (covB at_)).length = cn at *
          have HCS := Lib.hid hcs
          clear hx hdx hc hcs hcv
          subst hAe
          by_cases e1 : f ≤ at_
          · by_cases e2 : at_ < t
            · have d1 : decide (f ≤ at_) = true := decide_eq_true e1
              have d2 : decide (at_ < t) = true := decide_eq_true e2
              clear e1 e2
              go_wp2_with fail
              exact ⟨⟨k + 1, by omega, by go_num, by rw [HCS.out, d1, d2]; go_num, trivial⟩, by simp [intOf]; omega⟩
            · have d1 : decide (f ≤ at_) = true := decide_eq_true e1
              have d2 : decide (at_ < t) = false := decide_eq_false e2
              clear e1 e2
              go_wp2_with fail
              exact ⟨⟨k + 1, by omega, by go_num, by rw [HCS.out, d1, d2]; rfl, trivial⟩, by simp [intOf]; omega⟩
          · have d1 : decide (f ≤ at_) = false := decide_eq_false e1
            clear e1
            go_wp2_with fail
            exact ⟨⟨k + 1, by omega, by go_num, by rw [HCS.out, d1]; rfl, trivial⟩, by simp [intOf]; omega⟩
        · obtain rfl : k = D.length := by omega
          rw [List.take_of_length_le (Nat.le_refl _), ← HLL.out]
          clear hlt hk hfl
          obtain ⟨w6, rfl⟩ : ∃ x, x = wr := ⟨_, rfl⟩
          have hsl1024 : sl.length ≤ 1024 := by have := HLL.out; have := List.length_filter_le (covB at_) D; omega
          go_wp2_with fail
          go_loopw [12, 14, 15] (fun vw vl vi wz => ∃ k : Nat, k ≤ sl.length ∧ vi = .int .i64 k ∧ vw = .int .i64 (winI (sl.take k) nm) ∧ vl = .int .i64 (lastR 1 sl k) ∧ Below w6.heap.size w6 wz) (fun _ _ vi _ => sl.length - (intOf vi).toNat)
          case atStart => exact ⟨0, by omega, rfl, rfl, rfl, Below.refl _ _⟩
          case round =>
            obtain ⟨k, hk, rfl, rfl, rfl, hbel⟩ := hrel
            obtain ⟨wz, rfl⟩ : ∃ x, x = wr := ⟨_, rfl⟩
            by_cases hlt : k < sl.length
            · obtain ⟨x, hx⟩ : ∃ x, sl[k]? = some x := ⟨_, List.getElem?_eq_getElem hlt⟩
              obtain ⟨hxD, hcov⟩ := List.mem_filter.1 (HSP.out.mem_iff.1 (List.mem_of_getElem? hx))
              have hid : (sl.map OverD.id)[k]? = some x.id := by rw [List.getElem?_map, hx]; rfl
              obtain ⟨g, o, hAe, hg, hc⟩ := HR6.out.at_ eltI hid
              have k6 := hc 0 _ rfl
              simp only [Nat.mul_one, Nat.add_zero] at k6
              have he := ends_of HWF.out hxD
              have hg1 := getD_of HWF.out hxD 1
              have hgn := getD_of HWF.out hxD nm
              have hgx := HWF.out.good x hxD
              have hrk : 0 < k → lastR 1 sl k ≤ rankI 1 x.ps := fun h0 => by
                have h1 := HSL.out
                subst h1
                exact rank_le (HWF.out.nodup.sublist (List.filter_sublist.map _)) h0 hx
              have hls := lastR_succ (pr := 1) hx
              have hwy := fun p => winI_yes (nm := nm) hx (p := p)
              have hwn := winI_no (nm := nm) hx
              unfold covB at hcov
              simp only [Bool.and_eq_true, decide_eq_true_eq] at hcov
              obtain ⟨hc1, hc2⟩ := hcov
              obtain ⟨id, f, t, fr, re, ps⟩ := x
              dsimp only at k6 he hg1 hgn hrk hls hwy hwn hc1 hc2
              have hlt' : (k : Int) < sl.length := by omega
              have K : ∀ W, Below w6.heap.size w6 W → W.cell? ⟨g, o + k, none⟩ = some (.int .i64 id) := fun W hb => (hb.cell (p := ⟨g, o + k, none⟩) hg).trans k6
              have kz := K wz hbel
              have HE := Lib.hid (s_ends (HST6.out.up hbel).st HWF.out id)
              rw [he] at HE
              have hev : endsV (some ⟨id, f, t, fr, re, ps⟩) = .tuple #[.int .i64 f, .int .i64 t, .bool true] := rfl
              rw [hev] at HE
              have d1 : decide (at_ < f) = false := decide_eq_false (by omega)
              have d2 : decide (t ≤ at_) = false := decide_eq_false (by omega)
              have HK := Lib.hid K
              have HRK := Lib.hid hrk
              have HLS := Lib.hid hls
              have HWY := Lib.hid hwy
              have HWN := Lib.hid hwn
              have HG1 := Lib.hid hg1
              have HGN := Lib.hid hgn
              have HB := Lib.hid hbel
              have HAE := Lib.hid hAe
              generalize hla : lastR 1 sl k = lastv at *
              generalize hwi : winI (sl.take k) nm = wi at *
              clear hx hxD hid hc k6 he hg1 hgn hgx hrk hls hwy hwn hc1 hc2 hev K hbel hAe hla hwi
              have hAe := HAE.out
              subst hAe
              go_wp2_with fail
              refine HE.out.mono ?_
              rintro e w7 ⟨rfl, b7⟩
              have HB7 := Lib.hid (up2 HB.out b7)
              have k7 := HK.out w7 HB7.out
              clear HE b7 kz
              have HGET := Lib.hid (s_get (HST6.out.up HB7.out).st HWF.out id 1)
              rw [HG1.out] at HGET
              obtain ⟨gp, hgp⟩ : ∃ gp, valP ps 1 = gp := ⟨_, rfl⟩
              rw [hgp] at HGET
              have hcase : (gp = none ∧ rankI 1 ps = 0) ∨ (∃ vn, gp = some (0, vn) ∧ rankI 1 ps = vn) ∨ (∃ vk vn, gp = some (vk, vn) ∧ vk ≠ 0 ∧ rankI 1 ps = 0) := by
                unfold rankI
                rw [hgp]
                cases gp with
                | none => exact .inl ⟨rfl, rfl⟩
                | some kn =>
                  obtain ⟨vk, vn⟩ := kn
                  by_cases h0 : vk = 0
                  · subst h0; exact .inr (.inl ⟨vn, rfl, rfl⟩)
                  · exact .inr (.inr ⟨vk, vn, rfl, h0, by simp [h0]⟩)
              generalize rankI 1 ps = rk at *
              clear hgp HG1
              rcases hcase with ⟨rfl, hrr⟩ | ⟨vn, rfl, hrr⟩ | ⟨vk, vn, rfl, hv0, hrr⟩
              · rw [show wordV (none : Option (Int × Int)) = .tuple #[.agg #[.int .i64 0, .int .i64 0], .bool false] from rfl] at HGET
                rw [hrr] at HRK HLS
                clear hrr
                have hdk : decide (0 < k) = false ∨ (decide (0 < k) = true ∧ decide (0 < lastv) = false) := by
                  by_cases h0 : 0 < k
                  · exact .inr ⟨decide_eq_true h0, decide_eq_false (by have := HRK.out h0; omega)⟩
                  · exact .inl (decide_eq_false h0)
                go_wp2_with fail
                refine HGET.out.mono ?_
                rintro e w8 ⟨rfl, b8⟩
                have al8 := b8.alloc b8.size (.cells #[.int .i64 0, .int .i64 0] 34)
                have HB8 := Lib.hid (up2 HB7.out al8)
                have k8 := HK.out _ HB8.out
                have HG2 := Lib.hid (s_get (HST6.out.up HB8.out).st HWF.out id nm)
                rw [HGN.out] at HG2
                clear b8 al8 k7 HGET
                obtain ⟨gq, hgq⟩ : ∃ gq, valP ps nm = gq := ⟨_, rfl⟩
                rw [hgq] at HG2
                rcases hdk with f1 | ⟨f1, f2⟩ <;> cases gq
                · rw [show wordV (none : Option (Int × Int)) = .tuple #[.agg #[.int .i64 0, .int .i64 0], .bool false] from rfl] at HG2
                  have HW := Lib.hid (HWN.out hgq)
                  clear hgq
                  go_wp2_with fail
                  refine HG2.out.mono ?_
                  rintro e w9 ⟨rfl, b9⟩
                  have HB9 := Lib.hid (up2 HB8.out b9)
                  clear b9 k8
                  go_wp2_with fail
                  exact ⟨⟨k + 1, by omega, by go_num, by rw [HW.out], by rw [HLS.out], HB9.out⟩, by simp [intOf]; omega⟩
                · rename_i kn
                  obtain ⟨uk, un⟩ := kn
                  rw [show wordV (some (uk, un)) = .tuple #[.agg #[.int .i64 uk, .int .i64 un], .bool true] from rfl] at HG2
                  have HW := Lib.hid (HWY.out _ hgq)
                  clear hgq
                  go_wp2_with fail
                  refine HG2.out.mono ?_
                  rintro e w9 ⟨rfl, b9⟩
                  have HB9 := Lib.hid (up2 HB8.out b9)
                  have k9 := HK.out w9 HB9.out
                  clear b9 k8
                  go_wp2_with fail
                  exact ⟨⟨k + 1, by omega, by go_num, by rw [HW.out], by rw [HLS.out], HB9.out⟩, by simp [intOf]; omega⟩
                · rw [show wordV (none : Option (Int × Int)) = .tuple #[.agg #[.int .i64 0, .int .i64 0], .bool false] from rfl] at HG2
                  have HW := Lib.hid (HWN.out hgq)
                  clear hgq
                  go_wp2_with fail
                  refine HG2.out.mono ?_
                  rintro e w9 ⟨rfl, b9⟩
                  have HB9 := Lib.hid (up2 HB8.out b9)
                  clear b9 k8
                  go_wp2_with fail
                  exact ⟨⟨k + 1, by omega, by go_num, by rw [HW.out], by rw [HLS.out], HB9.out⟩, by simp [intOf]; omega⟩
                · rename_i kn
                  obtain ⟨uk, un⟩ := kn
                  rw [show wordV (some (uk, un)) = .tuple #[.agg #[.int .i64 uk, .int .i64 un], .bool true] from rfl] at HG2
                  have HW := Lib.hid (HWY.out _ hgq)
                  clear hgq
                  go_wp2_with fail
                  refine HG2.out.mono ?_
                  rintro e w9 ⟨rfl, b9⟩
                  have HB9 := Lib.hid (up2 HB8.out b9)
                  have k9 := HK.out w9 HB9.out
                  clear b9 k8
                  go_wp2_with fail
                  exact ⟨⟨k + 1, by omega, by go_num, by rw [HW.out], by rw [HLS.out], HB9.out⟩, by simp [intOf]; omega⟩
              · rw [show wordV (some (0, vn)) = .tuple #[.agg #[.int .i64 0, .int .i64 vn], .bool true] from rfl] at HGET
                rw [hrr] at HRK HLS
                clear hrr
                have hdk : decide (0 < k) = false ∨ (decide (0 < k) = true ∧ decide (vn < lastv) = false) := by
                  by_cases h0 : 0 < k
                  · exact .inr ⟨decide_eq_true h0, decide_eq_false (by have := HRK.out h0; omega)⟩
                  · exact .inl (decide_eq_false h0)
                go_wp2_with fail
                refine HGET.out.mono ?_
                rintro e w8 ⟨rfl, b8⟩
                have al8 := b8.alloc b8.size (.cells #[.int .i64 0, .int .i64 vn] 34)
                have HB8 := Lib.hid (up2 HB7.out al8)
                have k8 := HK.out _ HB8.out
                have HG2 := Lib.hid (s_get (HST6.out.up HB8.out).st HWF.out id nm)
                rw [HGN.out] at HG2
                clear b8 al8 k7 HGET
                obtain ⟨gq, hgq⟩ : ∃ gq, valP ps nm = gq := ⟨_, rfl⟩
                rw [hgq] at HG2
                rcases hdk with f1 | ⟨f1, f2⟩ <;> cases gq
                · rw [show wordV (none : Option (Int × Int)) = .tuple #[.agg #[.int .i64 0, .int .i64 0], .bool false] from rfl] at HG2
                  have HW := Lib.hid (HWN.out hgq)
                  clear hgq
                  go_wp2_with fail
                  refine HG2.out.mono ?_
                  rintro e w9 ⟨rfl, b9⟩
                  have HB9 := Lib.hid (up2 HB8.out b9)
                  clear b9 k8
                  go_wp2_with fail
                  exact ⟨⟨k + 1, by omega, by go_num, by rw [HW.out], by rw [HLS.out], HB9.out⟩, by simp [intOf]; omega⟩
                · rename_i kn
                  obtain ⟨uk, un⟩ := kn
                  rw [show wordV (some (uk, un)) = .tuple #[.agg #[.int .i64 uk, .int .i64 un], .bool true] from rfl] at HG2
                  have HW := Lib.hid (HWY.out _ hgq)
                  clear hgq
                  go_wp2_with fail
                  refine HG2.out.mono ?_
                  rintro e w9 ⟨rfl, b9⟩
                  have HB9 := Lib.hid (up2 HB8.out b9)
                  have k9 := HK.out w9 HB9.out
                  clear b9 k8
                  go_wp2_with fail
                  exact ⟨⟨k + 1, by omega, by go_num, by rw [HW.out], by rw [HLS.out], HB9.out⟩, by simp [intOf]; omega⟩
                · rw [show wordV (none : Option (Int × Int)) = .tuple #[.agg #[.int .i64 0, .int .i64 0], .bool false] from rfl] at HG2
                  have HW := Lib.hid (HWN.out hgq)
                  clear hgq
                  go_wp2_with fail
                  refine HG2.out.mono ?_
                  rintro e w9 ⟨rfl, b9⟩
                  have HB9 := Lib.hid (up2 HB8.out b9)
                  clear b9 k8
                  go_wp2_with fail
                  exact ⟨⟨k + 1, by omega, by go_num, by rw [HW.out], by rw [HLS.out], HB9.out⟩, by simp [intOf]; omega⟩
                · rename_i kn
                  obtain ⟨uk, un⟩ := kn
                  rw [show wordV (some (uk, un)) = .tuple #[.agg #[.int .i64 uk, .int .i64 un], .bool true] from rfl] at HG2
                  have HW := Lib.hid (HWY.out _ hgq)
                  clear hgq
                  go_wp2_with fail
                  refine HG2.out.mono ?_
                  rintro e w9 ⟨rfl, b9⟩
                  have HB9 := Lib.hid (up2 HB8.out b9)
                  have k9 := HK.out w9 HB9.out
                  clear b9 k8
                  go_wp2_with fail
                  exact ⟨⟨k + 1, by omega, by go_num, by rw [HW.out], by rw [HLS.out], HB9.out⟩, by simp [intOf]; omega⟩
              · rw [show wordV (some (vk, vn)) = .tuple #[.agg #[.int .i64 vk, .int .i64 vn], .bool true] from rfl] at HGET
                have hke : (vk == 0) = false := by simpa using hv0
                clear hv0
                rw [hrr] at HRK HLS
                clear hrr
                have hdk : decide (0 < k) = false ∨ (decide (0 < k) = true ∧ decide (0 < lastv) = false) := by
                  by_cases h0 : 0 < k
                  · exact .inr ⟨decide_eq_true h0, decide_eq_false (by have := HRK.out h0; omega)⟩
                  · exact .inl (decide_eq_false h0)
                go_wp2_with fail
                refine HGET.out.mono ?_
                rintro e w8 ⟨rfl, b8⟩
                have al8 := b8.alloc b8.size (.cells #[.int .i64 vk, .int .i64 vn] 34)
                have HB8 := Lib.hid (up2 HB7.out al8)
                have k8 := HK.out _ HB8.out
                have HG2 := Lib.hid (s_get (HST6.out.up HB8.out).st HWF.out id nm)
                rw [HGN.out] at HG2
                clear b8 al8 k7 HGET
                obtain ⟨gq, hgq⟩ : ∃ gq, valP ps nm = gq := ⟨_, rfl⟩
                rw [hgq] at HG2
                rcases hdk with f1 | ⟨f1, f2⟩ <;> cases gq
                · rw [show wordV (none : Option (Int × Int)) = .tuple #[.agg #[.int .i64 0, .int .i64 0], .bool false] from rfl] at HG2
                  have HW := Lib.hid (HWN.out hgq)
                  clear hgq
                  go_wp2_with fail
                  refine HG2.out.mono ?_
                  rintro e w9 ⟨rfl, b9⟩
                  have HB9 := Lib.hid (up2 HB8.out b9)
                  clear b9 k8
                  go_wp2_with fail
                  exact ⟨⟨k + 1, by omega, by go_num, by rw [HW.out], by rw [HLS.out], HB9.out⟩, by simp [intOf]; omega⟩
                · rename_i kn
                  obtain ⟨uk, un⟩ := kn
                  rw [show wordV (some (uk, un)) = .tuple #[.agg #[.int .i64 uk, .int .i64 un], .bool true] from rfl] at HG2
                  have HW := Lib.hid (HWY.out _ hgq)
                  clear hgq
                  go_wp2_with fail
                  refine HG2.out.mono ?_
                  rintro e w9 ⟨rfl, b9⟩
                  have HB9 := Lib.hid (up2 HB8.out b9)
                  have k9 := HK.out w9 HB9.out
                  clear b9 k8
                  go_wp2_with fail
                  exact ⟨⟨k + 1, by omega, by go_num, by rw [HW.out], by rw [HLS.out], HB9.out⟩, by simp [intOf]; omega⟩
                · rw [show wordV (none : Option (Int × Int)) = .tuple #[.agg #[.int .i64 0, .int .i64 0], .bool false] from rfl] at HG2
                  have HW := Lib.hid (HWN.out hgq)
                  clear hgq
                  go_wp2_with fail
                  refine HG2.out.mono ?_
                  rintro e w9 ⟨rfl, b9⟩
                  have HB9 := Lib.hid (up2 HB8.out b9)
                  clear b9 k8
                  go_wp2_with fail
                  exact ⟨⟨k + 1, by omega, by go_num, by rw [HW.out], by rw [HLS.out], HB9.out⟩, by simp [intOf]; omega⟩
                · rename_i kn
                  obtain ⟨uk, un⟩ := kn
                  rw [show wordV (some (uk, un)) = .tuple #[.agg #[.int .i64 uk, .int .i64 un], .bool true] from rfl] at HG2
                  have HW := Lib.hid (HWY.out _ hgq)
                  clear hgq
                  go_wp2_with fail
                  refine HG2.out.mono ?_
                  rintro e w9 ⟨rfl, b9⟩
                  have HB9 := Lib.hid (up2 HB8.out b9)
                  have k9 := HK.out w9 HB9.out
                  clear b9 k8
                  go_wp2_with fail
                  exact ⟨⟨k + 1, by omega, by go_num, by rw [HW.out], by rw [HLS.out], HB9.out⟩, by simp [intOf]; omega⟩
            · obtain rfl : k = sl.length := by omega
              rw [List.take_of_length_le (Nat.le_refl _)]
              have hgood : ∀ x ∈ sl, 0 ≤ x.id ∧ getD D x.id nm = valP x.ps nm := fun x hx => by
                have hm := (List.mem_filter.1 (HSP.out.mem_iff.1 hx)).1
                exact ⟨(HWF.out.good x hm).id0, getD_of HWF.out hm nm⟩
              have HV := Lib.hid (s_value (HST6.out.up hbel).st HWF.out at_ nm)
              rw [← HSL.out] at HV
              have HB := Lib.hid hbel
              have hne : ((sl.length : Int) != (sl.length : Int)) = false := by simp
              clear hbel hlt HR6 HR5' HSP HLL HSL HD HML
              cases hwf : winF sl nm with
              | none =>
                have hwl : winL sl nm = .tuple #[.agg #[.int .i64 0, .int .i64 0], .int .i64 0, .bool false] := by
                  unfold winF at hwf; unfold winL; rw [hwf]
                have hwi : winI sl nm = -1 := by unfold winI; rw [hwf]
                rw [hwl] at HV
                rw [hwi]
                clear hwf hwl hwi hgood
                go_wp2_with fail
                refine HV.out.mono ?_
                rintro e w8 ⟨rfl, b8⟩
                have HB8 := Lib.hid (up2 HB.out b8)
                clear b8
                go_wp2_with fail
                go_ret
                exact ⟨rfl, (up2 HST6.out.bel HB8.out).alloc (Nat.le_trans HST6.out.bel.size HB8.out.size) _⟩
              | some x =>
                have hxm : x ∈ sl := by unfold winF at hwf; exact List.mem_reverse.1 (List.mem_of_find?_eq_some hwf)
                have hxs : (valP x.ps nm).isSome = true := by unfold winF at hwf; exact List.find?_some (p := fun x : OverD => (valP x.ps nm).isSome) hwf
                obtain ⟨⟨vk, vn⟩, hv⟩ := Option.isSome_iff_exists.1 hxs
                have hwl : winL sl nm = .tuple #[.agg #[.int .i64 vk, .int .i64 vn], .int .i64 x.id, .bool true] := by
                  unfold winF at hwf; unfold winL; rw [hwf]; simp only; rw [hv]
                have hwi : winI sl nm = x.id := by unfold winI; rw [hwf]
                obtain ⟨hx0, hgx⟩ := hgood x hxm
                rw [hv] at hgx
                rw [hwl] at HV
                rw [hwi]
                generalize x.id = xid at *
                have d0 : decide ((0 : Int) ≤ xid) = true := decide_eq_true hx0
                have HGX := Lib.hid hgx
                have hq := eqW1 vk vn
                have hgd : Try.prog.eqGuardType Try.prog.depth 34 = false := by kernel_rfl
                clear hwf hwl hwi hgood hxm hxs hv hgx
                go_wp2_with fail
                refine HV.out.mono ?_
                rintro e w8 ⟨rfl, b8⟩
                have al8 := b8.alloc b8.size (.cells #[.int .i64 vk, .int .i64 vn] 34)
                have HB8 := Lib.hid (up2 HB.out al8)
                have m8 := (MapKept.heap_alloc w8 (.cells #[.int .i64 vk, .int .i64 vn] 34)).1
                have M8 := Lib.hid m8
                have HG2 := Lib.hid (s_get (HST6.out.up HB8.out).st HWF.out xid nm)
                rw [HGX.out, show wordV (some (vk, vn)) = .tuple #[.agg #[.int .i64 vk, .int .i64 vn], .bool true] from rfl] at HG2
                have sz8 : (w8.alloc (.cells #[.int .i64 vk, .int .i64 vn] 34)).heap.size = w8.heap.size + 1 := by simp
                clear b8 al8 m8
                go_wp2_with fail
                refine HG2.out.mono ?_
                rintro e w9 ⟨rfl, b9⟩
                have e9 := (b9.block w8.heap.size (by rw [sz8]; omega)).trans M8.out
                have c90 := cell_kind e9 0 _ rfl
                have c91 := cell_kind e9 1 _ rfl
                have z9 := b9.size
                rw [sz8] at z9
                have z9' : w8.heap.size < w9.heap.size := by omega
                have HB9 := Lib.hid (up2 HB8.out b9)
                clear b9 e9 sz8
                go_wp2_with fail
                go_ret
                exact ⟨rfl, (up2 HST6.out.bel HB9.out).alloc (Nat.le_trans HST6.out.bel.size HB9.out.size) _⟩
set_option maxRecDepth 100000 in
set_option maxHeartbeats 1000000 in
theorem wins18_many (A : Option Addr) (cap ln : Nat) (at_ nm : Int) (w : World) (hl : 60 < ln) (hm : ln ≤ maxLen) :
    Calls Try.prog 8 #[.slice A ln cap, .int .i64 at_, .int .i64 nm] w fun e w' => e = .returned (.bool true) ∧ Below w.heap.size w w' := by
  unfold maxLen at hm
  have hl' : (60 : Int) < (ln : Int) := by omega
  go_enter Try.func8, Try.ntmps8
  go_wp2_with fail
  refine (lives_true w).mono ?_
  rintro e w1 ⟨rfl, hB1⟩
  go_wp2_with fail
  go_ret
  exact ⟨rfl, hB1⟩
theorem wins18_walk (A : Option Addr) (ln cap : Nat) (at_ nm : Int) (l : List Act18) (w : World) (h : l.length = ln ∧ ln ≤ maxLen ∧ RSl encA w A l) :
    Calls Try.prog 8 #[.slice A ln cap, .int .i64 at_, .int .i64 nm] w fun e w' => e = .returned (.bool true) ∧ Below w.heap.size w w' := by
  obtain ⟨rfl, hm, hA⟩ := h
  by_cases hl : l.length ≤ 60
  · exact wins18_some A cap l at_ nm w hl hA
  · exact wins18_many A cap l.length at_ nm w (by omega) hm
end Go.Proofs.Ythjkdeocdhdkaaa
