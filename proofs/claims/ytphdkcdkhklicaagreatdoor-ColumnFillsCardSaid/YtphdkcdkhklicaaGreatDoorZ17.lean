import Derived.Test.YtphdkcdkhklicaaGreatDoorZ16
import Derived.Test.YtphdkcdkhklicaaGreatDoorZ04
/- package buffer: Replace at a plain buffer. -/
namespace Go.Proofs.YtphdkcdkhklicaaGreatDoor
open Go.RowKit Go.Lib
set_option linter.unusedVariables false
set_option linter.unusedSimpArgs false
/-- Behind Replace. -/
def repT (T : Tx) (x y : Nat) (s : List Nat) : Tx := putT (takeT T x y) x s false
section
variable {N : Nat} {w w' : World} {b mm : Nat} {F F' Fg Fl : Nat → Prop} {pr ev : Int} {T T' : Tx} {co nw co' nw' : Int} {B B' : Nat}
theorem takeT_len {T : Tx} {x y : Nat} (h1 : 1 ≤ x) (hxy : x ≤ y) (hy : y ≤ T.cs.length + 1) : (takeT T x y).cs.length = T.cs.length - (y - x) := by
  unfold takeT
  split
  · rename_i h; subst h; omega
  · exact delC_len h1 hxy hy
theorem grow_self {n m : Nat} (hn : n ≤ m) : ∀ k, grow (grow F n) m k → grow F n k := grow_two hn
set_option maxRecDepth 100000 in
set_option maxHeartbeats 4000000 in
theorem bReplace1 (hT : Tabs N w) (hR : Rules N w) (h : PB N w b F T B) (hF : edF N F) (hB : B ≤ 700000) (hro : T.S.ro = false) (x y : Int) (hxy : x = y) (s : ByteArray) (hs : s.size ≤ 262144) :
    Calls Tryz.prog 63 #[pAt b, .int .i64 x, .int .i64 y, .string s] w fun r w' => r = .returned (.int .i64 (repE T x y s)) ∧ Only F w w' ∧ PB N w' b (grow F w.heap.size) (if repE T x y s = 0 then repT T x.toNat y.toNat (chrs s) else T) (B + T.cs.length + 8) := by
  have hle := h.le
  have hsn := h.sane
  have hgp := gapB_free (S := T.S) hro x
  have hpb : partB T.S = true := by unfold partB; rw [hro]; simp
  have hsl := chrs_len s
  have HB := Lib.hid (⟨hB, hs, hle, hsl, hsn, hF⟩ : _ ∧ _ ∧ _ ∧ _ ∧ _ ∧ _)
  have HT := Lib.hid hT
  have HR := Lib.hid hR
  have H := Lib.hid h
  have HN := Lib.hid (bnoneB h.blk)
  have HG := Lib.hid (⟨hgp, hpb⟩ : _ ∧ _)
  obtain ⟨ls, hls⟩ : ∃ ls : Int, IntKind.i64.wrap (y - x) = ls := ⟨_, rfl⟩
  obtain ⟨E1, hE1⟩ : ∃ E1 : Int, E1 = if reachB T.S x y = true then 0 else 3 := ⟨_, rfl⟩
  obtain ⟨E3, hE3⟩ : ∃ E3 : Int, E3 = fitsE s T.cs.length ls := ⟨_, rfl⟩
  have hlr : reachB T.S x y = true → ls = y - x := fun hq => by
    have h1 := reach_iff.1 hq
    rw [← hls]
    exact IntWalk.i64_in _ (by have := hsn.hn; omega)
  have hPE : repE T x y s = if E1 = 0 then E3 else E1 := by
    unfold repE; rw [hE1, hE3]
    by_cases hq : reachB T.S x y = true
    · rw [if_pos hq, if_pos hq, if_pos rfl, hlr hq]
    · rw [if_neg hq, if_neg hq, if_neg (by omega)]
  obtain ⟨E, hE⟩ : ∃ E : Int, E = repE T x y s := ⟨_, rfl⟩
  rw [← hE] at hPE ⊢
  obtain ⟨T2, hT2⟩ : ∃ T2 : Tx, T2 = (if E = 0 then repT T x.toNat y.toNat (chrs s) else T) := ⟨_, rfl⟩
  rw [← hT2]
  have HT2 := Lib.hid hT2
  clear hT2
  have HE1 := Lib.hid hE1
  have HE3 := Lib.hid hE3
  have HPE := Lib.hid hPE
  have HE := Lib.hid hE
  have HLR := Lib.hid hlr
  have dx : ((x : Int) == y) = true := by simpa using hxy
  have nx : (x = y) = True := eq_true hxy
  have HXY := Lib.hid hxy
  clear hT hR h hB hs hle hsl hsn hF hgp hpb hro hE1 hE3 hPE hE hlr hxy
  go_enter Tryz.func63, Tryz.ntmps63
  go_wp2_with fail
  refine HN.out.mono ?_
  rintro e w0 ⟨rfl, rfl⟩
  go_wp2_with fail
  refine (partOpen_ok H.out.blk H.out.prs x y).mono ?_
  rintro e w1 ⟨k8, k9, rfl, hb1, hcc⟩
  rw [HG.out.2] at hcc ⊢
  have B1 := Lib.hid hb1
  clear hb1 hcc
  go_wp2_with fail
  refine (gapOpen_ok (H.out.blk.up B1.out) (H.out.up B1.out).getAt x).mono ?_
  rintro e w2 ⟨k3, k4, rfl, hb2, hc2⟩
  rw [HG.out.1] at hc2 ⊢
  change ChkAt w2 _ (unlC k3 k4 0) at hc2
  have C2 := Lib.hid hc2
  have B2 := Lib.hid (up2 B1.out hb2)
  clear hc2 hb2 B1
  go_wp2_with fail
  refine (within_ok (H.out.blk.up B2.out) x y).mono ?_
  rintro e w6 ⟨k1, k2, rfl, hb6, hc1⟩
  rw [← HE1.out] at hc1 ⊢
  have C1 := Lib.hid hc1
  have B6 := Lib.hid (up2 B2.out hb6)
  have C22 := Lib.hid (C2.out.up hb6)
  clear hc1 hb6 C2 B2 HN
  go_wp2_with fail
  refine (fits_ok (n := T.cs.length) (HT.out.up B6.out) (H.out.blk.up B6.out) s (by have := HB.out; omega) ls (by have := HB.out; omega) (H.out.up B6.out).size).mono ?_
  rintro e w3 ⟨k5, k6, k7, rfl, hb3, hc3⟩
  rw [← HE3.out] at hc3 ⊢
  have C3 := Lib.hid hc3
  have B3 := Lib.hid (up2 B6.out hb3)
  have C13 := Lib.hid (C1.out.up hb3)
  have C23 := Lib.hid (C22.out.up hb3)
  clear hc3 hb3 C1 C22 B6
  go_wp2_with fail
  have hb4 := below1 w3 (.cells #[(unlC k1 k2 E1).val, (unlC k3 k4 0).val, (fitC k5 k6 k7 E3).val] 59)
  have hR3 := RSl.arr (enc := encK) (zs := [unlC k1 k2 E1, unlC k3 k4 0, fitC k5 k6 k7 E3]) (MapKept.heap_alloc w3 (.cells #[(unlC k1 k2 E1).val, (unlC k3 k4 0).val, (fitC k5 k6 k7 E3).val] 59)).1 rfl
  have HF := first_any hR3 3 (by simp) (by
    intro c hc
    simp only [List.mem_cons, List.not_mem_nil, or_false] at hc
    rcases hc with rfl | rfl | rfl
    · exact C13.out.en
    · exact C23.out.en
    · exact C3.out.en) (by
    intro i c w4 hi hz hb
    rcases i with _ | _ | _ | i
    · cases hi; exact C13.out.run trivial w4 (up2 hb4 hb)
    · cases hi
      have h0 : E1 = 0 := hz 0 (unlC k1 k2 E1) rfl (by omega)
      have hq := reach_of0 (HE1.out.symm.trans h0)
      exact C23.out.run ⟨by have := HB.out.2.2.2.2.1.l1; omega, by have := HB.out.2.2.2.2.1.hn; have := HB.out; omega⟩ w4 (up2 hb4 hb)
    · cases hi
      have h0 : E1 = 0 := hz 0 (unlC k1 k2 E1) rfl (by omega)
      have hq := reach_of0 (HE1.out.symm.trans h0)
      have hl := HLR.out (reach_iff.2 hq)
      exact C3.out.run ⟨by omega, by have := HB.out.2.2.2.2.1.hn; have := HB.out.2.2.2.2.1.l1; omega⟩ w4 (up2 hb4 hb)
    · simp at hi)
  have B4 := Lib.hid (up2 B3.out hb4)
  have hfe : firstE [unlC k1 k2 E1, unlC k3 k4 0, fitC k5 k6 k7 E3] = E := by
    rw [firstE3, HPE.out]; rfl
  rw [hfe] at HF
  have HF := Lib.hid HF
  clear hR3 hb4 C13 C23 C3 B3 hfe
  refine HF.out.mono ?_
  rintro e w5 ⟨rfl, hb5⟩
  have B5 := Lib.hid (up2 B4.out hb5)
  clear hb5 B4 HF
  by_cases hE : E = 0
  · have h1 : E1 = 0 := by
      have h2 := HPE.out
      rw [hE] at h2
      split at h2
      · assumption
      · exact h2.symm
    have hq := reach_of0 (HE1.out.symm.trans h1)
    have h3 : E3 = 0 := by have h2 := HPE.out; rw [if_pos h1, hE] at h2; exact h2.symm
    have hft := fits0 (HE3.out.symm.trans h3)
    rw [HLR.out (reach_iff.2 hq)] at hft
    have hsn := HB.out.2.2.2.2.1
    have g1 := hsn.l1
    have g4 := hsn.hn
    have H5 := Lib.hid (H.out.up B5.out)
    obtain ⟨n, hn⟩ : ∃ n : Nat, x = n := ⟨x.toNat, by omega⟩
    obtain ⟨m, hm⟩ : ∃ m : Nat, y = m := ⟨y.toNat, by omega⟩
    have HX := Lib.hid (ptake (HT.out.up B5.out) (HR.out.up B5.out) H5.out (by have := HB.out.1; omega) n m (by omega) (by omega) (by omega))
    rw [← hn, ← hm] at HX
    have hlen := takeT_len (T := T) (x := n) (y := m) (by omega) (by omega) (by omega)
    have HE0 := Lib.hid hE
    have HNN := Lib.hid (⟨show x.toNat = n by omega, show y.toNat = m by omega, hlen, show n ≤ T.cs.length + 1 by omega, show n ≤ m by omega, show m ≤ T.cs.length + 1 by omega, hft, hn, show 1 ≤ n by omega, hm⟩ : _ ∧ _ ∧ _ ∧ _ ∧ _ ∧ _ ∧ _ ∧ _ ∧ _ ∧ _)
    clear hq hft hsn g1 g4 h1 h3 hn hm hlen
    rw [hE]
    go_wp2_with fail
    refine HX.out.mono ?_
    rintro e w6 ⟨rfl, ho6, hp6⟩
    have P6 := Lib.hid hp6.bound
    have O6 := Lib.hid ho6
    have HY := Lib.hid (pput ((HT.out.up B5.out).only ho6 (fun k hk => HB.out.2.2.2.2.2 k hk)) ((HR.out.up B5.out).only ho6 (fun k hk => HB.out.2.2.2.2.2 k hk)) P6.out (by have := HB.out; have := HNN.out; omega) n (by have := HNN.out; omega) (by have := HNN.out; omega) s HB.out.2.1 HNN.out.2.2.2.2.2.2.1.1 (by have := HNN.out; omega) false)
    rw [← HNN.out.2.2.2.2.2.2.2.1] at HY
    clear ho6 hp6 HX
    go_wp2_with fail
    refine HY.out.mono ?_
    rintro e w7 ⟨rfl, ho7, hp7⟩
    have z5 := O6.out.size
    have hsub : ∀ k, grow (fun k => grow F w5.heap.size k ∧ k < w6.heap.size) w6.heap.size k → grow F w5.heap.size k := fun k hk => hk.elim (fun e => e.1) (fun e => .inr (by omega))
    have HP7 := Lib.hid (PB.then (T1 := T) (B1 := B) B5.out ⟨O6.out.then ho7 (fun k hk hlt => hk.1.elim id (fun e => by omega)), hp7.mono hsub (Nat.le_refl _)⟩)
    clear ho7 hp7 hsub
    go_wp2_with fail
    go_ret
    refine ⟨by rw [HE0.out]; rfl, HP7.out.1, ?_⟩
    rw [HT2.out, if_pos HE0.out, HNN.out.1, HNN.out.2.1]
    exact HP7.out.2.mono (fun k hk => hk) (by have := HNN.out; omega)
  · have e1 : ((E : Int) == 0) = false := by simpa using hE
    have e2 : (E = 0) = False := eq_false hE
    have HEN := Lib.hid hE
    clear hE
    go_wp2_with fail
    go_ret
    refine ⟨rfl, ?_⟩
    rw [HT2.out, if_neg HEN.out]
    exact H.out.stay B5.out (T.cs.length + 8)
set_option maxRecDepth 100000 in
set_option maxHeartbeats 4000000 in
theorem bReplace2 (hT : Tabs N w) (hR : Rules N w) (h : PB N w b F T B) (hF : edF N F) (hB : B ≤ 700000) (hro : T.S.ro = false) (x y : Int) (hxy : ¬ x = y) (s : ByteArray) (hs : s.size ≤ 262144) :
    Calls Tryz.prog 63 #[pAt b, .int .i64 x, .int .i64 y, .string s] w fun r w' => r = .returned (.int .i64 (repE T x y s)) ∧ Only F w w' ∧ PB N w' b (grow F w.heap.size) (if repE T x y s = 0 then repT T x.toNat y.toNat (chrs s) else T) (B + T.cs.length + 8) := by
  have hle := h.le
  have hsn := h.sane
  have hgp := gapB_free (S := T.S) hro x
  have hpb : partB T.S = true := by unfold partB; rw [hro]; simp
  have hsl := chrs_len s
  have HB := Lib.hid (⟨hB, hs, hle, hsl, hsn, hF⟩ : _ ∧ _ ∧ _ ∧ _ ∧ _ ∧ _)
  have HT := Lib.hid hT
  have HR := Lib.hid hR
  have H := Lib.hid h
  have HN := Lib.hid (bnoneB h.blk)
  have HG := Lib.hid (⟨hgp, hpb⟩ : _ ∧ _)
  obtain ⟨ls, hls⟩ : ∃ ls : Int, IntKind.i64.wrap (y - x) = ls := ⟨_, rfl⟩
  obtain ⟨E1, hE1⟩ : ∃ E1 : Int, E1 = if reachB T.S x y = true then 0 else 3 := ⟨_, rfl⟩
  obtain ⟨E3, hE3⟩ : ∃ E3 : Int, E3 = fitsE s T.cs.length ls := ⟨_, rfl⟩
  have hlr : reachB T.S x y = true → ls = y - x := fun hq => by
    have h1 := reach_iff.1 hq
    rw [← hls]
    exact IntWalk.i64_in _ (by have := hsn.hn; omega)
  have hPE : repE T x y s = if E1 = 0 then E3 else E1 := by
    unfold repE; rw [hE1, hE3]
    by_cases hq : reachB T.S x y = true
    · rw [if_pos hq, if_pos hq, if_pos rfl, hlr hq]
    · rw [if_neg hq, if_neg hq, if_neg (by omega)]
  obtain ⟨E, hE⟩ : ∃ E : Int, E = repE T x y s := ⟨_, rfl⟩
  rw [← hE] at hPE ⊢
  obtain ⟨T2, hT2⟩ : ∃ T2 : Tx, T2 = (if E = 0 then repT T x.toNat y.toNat (chrs s) else T) := ⟨_, rfl⟩
  rw [← hT2]
  have HT2 := Lib.hid hT2
  clear hT2
  have HE1 := Lib.hid hE1
  have HE3 := Lib.hid hE3
  have HPE := Lib.hid hPE
  have HE := Lib.hid hE
  have HLR := Lib.hid hlr
  have dx : ((x : Int) == y) = false := by simpa using hxy
  have nx : (x = y) = False := eq_false hxy
  have HXY := Lib.hid hxy
  clear hT hR h hB hs hle hsl hsn hF hgp hpb hro hE1 hE3 hPE hE hlr hxy
  go_enter Tryz.func63, Tryz.ntmps63
  go_wp2_with fail
  refine HN.out.mono ?_
  rintro e w0 ⟨rfl, rfl⟩
  go_wp2_with fail
  refine (partOpen_ok H.out.blk H.out.prs x y).mono ?_
  rintro e w2 ⟨k3, k4, rfl, hb2, hc2⟩
  rw [HG.out.2] at hc2 ⊢
  change ChkAt w2 _ (unlC k3 k4 0) at hc2
  have C2 := Lib.hid hc2
  have B2 := Lib.hid hb2
  clear hc2 hb2
  go_wp2_with fail
  refine (within_ok (H.out.blk.up B2.out) x y).mono ?_
  rintro e w6 ⟨k1, k2, rfl, hb6, hc1⟩
  rw [← HE1.out] at hc1 ⊢
  have C1 := Lib.hid hc1
  have B6 := Lib.hid (up2 B2.out hb6)
  have C22 := Lib.hid (C2.out.up hb6)
  clear hc1 hb6 C2 B2 HN
  go_wp2_with fail
  refine (fits_ok (n := T.cs.length) (HT.out.up B6.out) (H.out.blk.up B6.out) s (by have := HB.out; omega) ls (by have := HB.out; omega) (H.out.up B6.out).size).mono ?_
  rintro e w3 ⟨k5, k6, k7, rfl, hb3, hc3⟩
  rw [← HE3.out] at hc3 ⊢
  have C3 := Lib.hid hc3
  have B3 := Lib.hid (up2 B6.out hb3)
  have C13 := Lib.hid (C1.out.up hb3)
  have C23 := Lib.hid (C22.out.up hb3)
  clear hc3 hb3 C1 C22 B6
  go_wp2_with fail
  have hb4 := below1 w3 (.cells #[(unlC k1 k2 E1).val, (unlC k3 k4 0).val, (fitC k5 k6 k7 E3).val] 59)
  have hR3 := RSl.arr (enc := encK) (zs := [unlC k1 k2 E1, unlC k3 k4 0, fitC k5 k6 k7 E3]) (MapKept.heap_alloc w3 (.cells #[(unlC k1 k2 E1).val, (unlC k3 k4 0).val, (fitC k5 k6 k7 E3).val] 59)).1 rfl
  have HF := first_any hR3 3 (by simp) (by
    intro c hc
    simp only [List.mem_cons, List.not_mem_nil, or_false] at hc
    rcases hc with rfl | rfl | rfl
    · exact C13.out.en
    · exact C23.out.en
    · exact C3.out.en) (by
    intro i c w4 hi hz hb
    rcases i with _ | _ | _ | i
    · cases hi; exact C13.out.run trivial w4 (up2 hb4 hb)
    · cases hi
      have h0 : E1 = 0 := hz 0 (unlC k1 k2 E1) rfl (by omega)
      have hq := reach_of0 (HE1.out.symm.trans h0)
      exact C23.out.run ⟨by have := HB.out.2.2.2.2.1.l1; omega, by omega, by have := HB.out.2.2.2.2.1.hn; have := HB.out; omega⟩ w4 (up2 hb4 hb)
    · cases hi
      have h0 : E1 = 0 := hz 0 (unlC k1 k2 E1) rfl (by omega)
      have hq := reach_of0 (HE1.out.symm.trans h0)
      have hl := HLR.out (reach_iff.2 hq)
      exact C3.out.run ⟨by omega, by have := HB.out.2.2.2.2.1.hn; have := HB.out.2.2.2.2.1.l1; omega⟩ w4 (up2 hb4 hb)
    · simp at hi)
  have B4 := Lib.hid (up2 B3.out hb4)
  have hfe : firstE [unlC k1 k2 E1, unlC k3 k4 0, fitC k5 k6 k7 E3] = E := by
    rw [firstE3, HPE.out]; rfl
  rw [hfe] at HF
  have HF := Lib.hid HF
  clear hR3 hb4 C13 C23 C3 B3 hfe
  refine HF.out.mono ?_
  rintro e w5 ⟨rfl, hb5⟩
  have B5 := Lib.hid (up2 B4.out hb5)
  clear hb5 B4 HF
  by_cases hE : E = 0
  · have h1 : E1 = 0 := by
      have h2 := HPE.out
      rw [hE] at h2
      split at h2
      · assumption
      · exact h2.symm
    have hq := reach_of0 (HE1.out.symm.trans h1)
    have h3 : E3 = 0 := by have h2 := HPE.out; rw [if_pos h1, hE] at h2; exact h2.symm
    have hft := fits0 (HE3.out.symm.trans h3)
    rw [HLR.out (reach_iff.2 hq)] at hft
    have hsn := HB.out.2.2.2.2.1
    have g1 := hsn.l1
    have g4 := hsn.hn
    have H5 := Lib.hid (H.out.up B5.out)
    obtain ⟨n, hn⟩ : ∃ n : Nat, x = n := ⟨x.toNat, by omega⟩
    obtain ⟨m, hm⟩ : ∃ m : Nat, y = m := ⟨y.toNat, by omega⟩
    have HX := Lib.hid (ptake (HT.out.up B5.out) (HR.out.up B5.out) H5.out (by have := HB.out.1; omega) n m (by omega) (by omega) (by omega))
    rw [← hn, ← hm] at HX
    have hlen := takeT_len (T := T) (x := n) (y := m) (by omega) (by omega) (by omega)
    have HE0 := Lib.hid hE
    have HNN := Lib.hid (⟨show x.toNat = n by omega, show y.toNat = m by omega, hlen, show n ≤ T.cs.length + 1 by omega, show n ≤ m by omega, show m ≤ T.cs.length + 1 by omega, hft, hn, show 1 ≤ n by omega, hm⟩ : _ ∧ _ ∧ _ ∧ _ ∧ _ ∧ _ ∧ _ ∧ _ ∧ _ ∧ _)
    clear hq hft hsn g1 g4 h1 h3 hn hm hlen
    rw [hE]
    go_wp2_with fail
    refine HX.out.mono ?_
    rintro e w6 ⟨rfl, ho6, hp6⟩
    have P6 := Lib.hid hp6.bound
    have O6 := Lib.hid ho6
    have HY := Lib.hid (pput ((HT.out.up B5.out).only ho6 (fun k hk => HB.out.2.2.2.2.2 k hk)) ((HR.out.up B5.out).only ho6 (fun k hk => HB.out.2.2.2.2.2 k hk)) P6.out (by have := HB.out; have := HNN.out; omega) n (by have := HNN.out; omega) (by have := HNN.out; omega) s HB.out.2.1 HNN.out.2.2.2.2.2.2.1.1 (by have := HNN.out; omega) false)
    rw [← HNN.out.2.2.2.2.2.2.2.1] at HY
    clear ho6 hp6 HX
    go_wp2_with fail
    refine HY.out.mono ?_
    rintro e w7 ⟨rfl, ho7, hp7⟩
    have z5 := O6.out.size
    have hsub : ∀ k, grow (fun k => grow F w5.heap.size k ∧ k < w6.heap.size) w6.heap.size k → grow F w5.heap.size k := fun k hk => hk.elim (fun e => e.1) (fun e => .inr (by omega))
    have HP7 := Lib.hid (PB.then (T1 := T) (B1 := B) B5.out ⟨O6.out.then ho7 (fun k hk hlt => hk.1.elim id (fun e => by omega)), hp7.mono hsub (Nat.le_refl _)⟩)
    clear ho7 hp7 hsub
    go_wp2_with fail
    go_ret
    refine ⟨by rw [HE0.out]; rfl, HP7.out.1, ?_⟩
    rw [HT2.out, if_pos HE0.out, HNN.out.1, HNN.out.2.1]
    exact HP7.out.2.mono (fun k hk => hk) (by have := HNN.out; omega)
  · have e1 : ((E : Int) == 0) = false := by simpa using hE
    have e2 : (E = 0) = False := eq_false hE
    have HEN := Lib.hid hE
    clear hE
    go_wp2_with fail
    go_ret
    refine ⟨rfl, ?_⟩
    rw [HT2.out, if_neg HEN.out]
    exact H.out.stay B5.out (T.cs.length + 8)
theorem bReplace (hT : Tabs N w) (hR : Rules N w) (h : PB N w b F T B) (hF : edF N F) (hB : B ≤ 700000) (hro : T.S.ro = false) (x y : Int) (s : ByteArray) (hs : s.size ≤ 262144) :
    Calls Tryz.prog 63 #[pAt b, .int .i64 x, .int .i64 y, .string s] w fun r w' => r = .returned (.int .i64 (repE T x y s)) ∧ Only F w w' ∧ PB N w' b (grow F w.heap.size) (if repE T x y s = 0 then repT T x.toNat y.toNat (chrs s) else T) (B + T.cs.length + 8) := by
  by_cases hxy : x = y
  · exact bReplace1 hT hR h hF hB hro x y hxy s hs
  · exact bReplace2 hT hR h hF hB hro x y hxy s hs
end
end Go.Proofs.YtphdkcdkhklicaaGreatDoor
/- package buffer: Text, All, Size, Point, Reach, Char, Narrow, Widen at a plain buffer; Save and Restore, one excursion. -/
namespace Go.Proofs.YtphdkcdkhklicaaGreatDoor
open Go.RowKit Go.Lib
set_option linter.unusedVariables false
set_option linter.unusedSimpArgs false
theorem subL_all (cs : List Nat) : subL cs 1 (cs.length + 1) = cs := by unfold subL; simp
/-- What Text answers. -/
def textV (T : Tx) (x y : Int) : ByteArray := if reachB T.S x y = true then encS (subL T.cs x.toNat y.toNat) else ⟨#[]⟩
section
variable {N : Nat} {w w' : World} {b mm : Nat} {F F' Fg Fl : Nat → Prop} {pr ev : Int} {T T' : Tx} {co nw co' nw' : Int} {B B' : Nat}
theorem PB.gap (h : PB N w b F T B) : ∃ g, GapR w T.S.t g T.cs := by obtain ⟨Fg, Fl, mm, pr, ev, co, nw, hx, hd⟩ := h; exact hx.gap.r
theorem PB.gap2 (h : PB N w b F T B) : ∃ g, GapR w T.S.t g T.cs ∧ b ≠ T.S.t ∧ b ≠ g := by
  obtain ⟨Fg, Fl, mm, pr, ev, co, nw, hx, hd⟩ := h
  obtain ⟨g', fv, Bf, st, en, hgx, hf⟩ := hx.gap
  exact ⟨g', hgx.r, fun e => hx.fg.1 (e ▸ hf _ (.inl rfl)), fun e => hx.fg.1 (e ▸ hf _ (.inr (.inl rfl)))⟩
set_option maxRecDepth 100000 in
set_option maxHeartbeats 2000000 in
theorem pText (h : PB N w b F T B) (x y : Int) : Calls Tryz.prog 22 #[pAt b, .int .i64 x, .int .i64 y] w fun r w' => r = .returned (.tuple #[.string (textV T x y), .int .i64 (delE T x y)]) ∧ Below w.heap.size w w' := by
  have HM := Lib.hid (ChkAt.made h.blk)
  have HV := Lib.hid (within_ok h.blk x y)
  obtain ⟨E, hE⟩ : ∃ E : Int, E = if reachB T.S x y = true then 0 else 3 := ⟨_, rfl⟩
  rw [← hE] at HV
  have hE' : delE T x y = E := hE.symm
  rw [hE']
  obtain ⟨V, hV⟩ : ∃ V, V = textV T x y := ⟨_, rfl⟩
  rw [← hV]
  have HS := Lib.hid h.sane
  have H := Lib.hid h
  have HE := Lib.hid hE
  have HVV := Lib.hid hV
  clear h hE hE' hV
  go_enter Tryz.func22, Tryz.ntmps22
  go_wp2_with fail
  refine HV.out.mono ?_
  rintro r w1 ⟨k1, k2, rfl, hb1, hc⟩
  have C1 := Lib.hid hc
  have B1 := Lib.hid hb1
  have M1 := Lib.hid (HM.out.up hb1)
  clear hc hb1 HV HM
  go_wp2_with fail
  have hb4 := below1 w1 (.cells #[(madeC b).val, (unlC k1 k2 E).val] 59)
  have hR3 := RSl.arr (enc := encK) (zs := [madeC b, unlC k1 k2 E]) (MapKept.heap_alloc w1 (.cells #[(madeC b).val, (unlC k1 k2 E).val] 59)).1 rfl
  have HF := first_any hR3 2 (by simp) (by
    intro c hc
    simp only [List.mem_cons, List.not_mem_nil, or_false] at hc
    rcases hc with rfl | rfl
    · exact M1.out.en
    · exact C1.out.en) (by
    intro i c w4 hi hz hb
    rcases i with _ | _ | i
    · cases hi; exact M1.out.run trivial w4 (up2 hb4 hb)
    · cases hi; exact C1.out.run trivial w4 (up2 hb4 hb)
    · simp at hi)
  have B2 := Lib.hid (up2 B1.out hb4)
  have hfe : firstE [madeC b, unlC k1 k2 E] = E := by rw [firstE2]; rfl
  rw [hfe] at HF
  have HF := Lib.hid HF
  clear hR3 hb4 M1 C1 B1 hfe
  refine HF.out.mono ?_
  rintro e w5 ⟨rfl, hb5⟩
  have B5 := Lib.hid (up2 B2.out hb5)
  clear hb5 B2 HF
  by_cases hq : reachB T.S x y = true
  · have hE := HE.out
    rw [if_pos hq] at hE
    have hv := HVV.out
    unfold textV at hv
    rw [if_pos hq] at hv
    have hq' := reach_iff.1 hq
    have g1 := HS.out.l1
    have g4 := HS.out.hn
    have P5 := Lib.hid (H.out.up B5.out)
    obtain ⟨g, hg⟩ := P5.out.gap
    obtain ⟨n, rfl⟩ : ∃ n : Nat, x = n := ⟨x.toNat, by omega⟩
    obtain ⟨m, rfl⟩ : ∃ m : Nat, y = m := ⟨y.toNat, by omega⟩
    simp only [Int.toNat_natCast] at hv
    have HSL := Lib.hid (gslice_ok hg n m (by omega) (by omega) (by omega))
    have q9 : w5.cell? ⟨b, 9, none⟩ = some (pAt T.S.t) := P5.out.blk.cell (j := 9) rfl
    rw [← hv] at HSL
    have HE0 := Lib.hid hE
    clear hq hq' g1 g4 hg hv
    rw [hE]
    clear hE
    generalize T.S.t = t at *
    go_wp2_with fail
    refine HSL.out.mono ?_
    rintro e w6 ⟨rfl, hb6⟩
    go_wp2_with fail
    go_ret2
    exact ⟨by rw [HE0.out]; rfl, up2 B5.out hb6⟩
  · have hE := HE.out
    rw [if_neg hq] at hE
    have hv := HVV.out
    unfold textV at hv
    rw [if_neg hq] at hv
    have HE0 := Lib.hid hE
    have HV0 := Lib.hid hv
    clear hq
    rw [hE]
    clear hE hv
    go_wp2_with fail
    go_ret2
    exact ⟨by rw [HE0.out, HV0.out]; rfl, B5.out⟩
theorem gAll {g t : Nat} {cs : List Nat} (h : GapR w t g cs) : Calls Tryz.prog 74 #[pAt t] w fun r w' => r = .returned (.string (encS cs)) ∧ Below w.heap.size w w' := by
  have hl := h.len
  have H := Lib.hid h
  have HS := Lib.hid (gsize h)
  have s1 : IntKind.i64.wrap ((cs.length : Int) + 1) = ((cs.length + 1 : Nat) : Int) := by rw [IntWalk.i64_in _ (by omega)]; omega
  clear h
  go_enter Tryz.func74, Tryz.ntmps74
  go_wp2_with fail
  refine HS.out.mono ?_
  rintro e w1 ⟨rfl, hb1⟩
  have HB := Lib.hid hb1
  have HSL := Lib.hid (gslice_ok (H.out.up hb1) 1 (cs.length + 1) (by omega) (by omega) (by omega))
  rw [subL_all] at HSL
  clear hb1
  go_wp2_with fail
  refine HSL.out.mono ?_
  rintro e w2 ⟨rfl, hb2⟩
  go_wp2_with fail
  go_ret
  exact ⟨rfl, up2 HB.out hb2⟩
theorem pAll (h : PB N w b F T B) : Calls Tryz.prog 26 #[pAt b] w fun r w' => r = .returned (.string (encS T.cs)) ∧ Below w.heap.size w w' := by
  obtain ⟨g, hg⟩ := h.gap
  have HN := Lib.hid (bnoneB h.blk)
  have q9 : w.cell? ⟨b, 9, none⟩ = some (pAt T.S.t) := h.blk.cell (j := 9) rfl
  have HA := Lib.hid (gAll hg)
  clear h hg
  generalize T.S.t = t at *
  go_enter Tryz.func26, Tryz.ntmps26
  go_wp2_with fail
  refine HN.out.mono ?_
  rintro e w1 ⟨rfl, rfl⟩
  go_wp2_with fail
  refine HA.out.mono ?_
  rintro e w1 ⟨rfl, hb⟩
  go_wp2_with fail
  go_ret
  exact ⟨rfl, hb⟩
end
end Go.Proofs.YtphdkcdkhklicaaGreatDoor
/- package column: SetIndent at a plain buffer. -/
namespace Go.Proofs.YtphdkcdkhklicaaGreatDoor
open Go.RowKit Go.Lib
set_option linter.unusedVariables false
set_option linter.unusedSimpArgs false
/-- The characters of an indentation. -/
def indC (col tab : Nat) (tabs : Bool) : List Nat := List.replicate (tabsN col tab tabs) 9 ++ List.replicate (col - tabsN col tab tabs * tab) 32
theorem encS_ascii (c n : Nat) (hc : c < 128) : encS (List.replicate n c) = repB (UInt8.ofNat c) n := by
  have hN : isN c := by unfold isN; omega
  refine bytes_ext ?_
  rw [encS_list]
  unfold encL repB
  induction n with
  | zero => simp
  | succ n ih =>
    rw [List.replicate_succ, List.flatMap_cons, ih, enc1 hN hc]
    simp [List.replicate_succ]
theorem encS_indC (col tab : Nat) (tabs : Bool) : encS (indC col tab tabs) = indT col tab tabs := by
  unfold indC indT
  rw [← encS_append, encS_ascii 9 _ (by omega), encS_ascii 32 _ (by omega)]; rfl
theorem indC_isN (col tab : Nat) (tabs : Bool) : ∀ c ∈ indC col tab tabs, isN c := fun c hc => by
  unfold indC at hc
  simp only [List.mem_append, List.mem_replicate] at hc
  unfold isN
  rcases hc with ⟨_, rfl⟩ | ⟨_, rfl⟩ <;> omega
theorem chrs_indT (col tab : Nat) (tabs : Bool) : chrs (indT col tab tabs) = indC col tab tabs ∧ (charsD (indT col tab tabs).data.toList).isSome = true := by
  rw [← encS_indC]; exact chrs_encS (indC_isN _ _ _)
theorem tabsN_mul (col tab : Nat) (tabs : Bool) : tabsN col tab tabs * tab ≤ col := by
  unfold tabsN
  split
  · exact Nat.div_mul_le_self _ _
  · omega
theorem tabsN_le (col tab : Nat) (tabs : Bool) : tabsN col tab tabs ≤ col := by
  unfold tabsN
  split
  · exact Nat.div_le_self _ _
  · omega
theorem indC_len (col tab : Nat) (tabs : Bool) : (indC col tab tabs).length ≤ 2 * col := by
  have := tabsN_le col tab tabs
  unfold indC; simp; omega
theorem indT_size (col tab : Nat) (tabs : Bool) : (indT col tab tabs).size ≤ 2 * col := by
  have := tabsN_le col tab tabs
  unfold indT; rw [ByteArray.size_append, repB_size, repB_size]; omega
/-- Where the indentation of a line lies. -/
def indA (T : Tx) (k : Nat) : Nat := lineB T.cs T.S.lo k
def indZ (T : Tx) (k : Nat) : Nat := indN T.cs (lineB T.cs T.S.lo k) (lineE T.cs T.S.hi k)
/-- Behind SetIndent. -/
def sindT (T : Tx) (k col tab : Nat) (tabs : Bool) : Tx := if encS (subL T.cs (indA T k) (indZ T k)) = indT col tab tabs then T else repT T (indA T k) (indZ T k) (indC col tab tabs)
theorem str_ne1 {x y : ByteArray} (h : ¬ x = y) : (x.toList == y.toList) = false := by
  have e : x.toList ≠ y.toList := fun e => h (bytes_ext (by rw [← ByteArray.toList_eq, ← ByteArray.toList_eq]; exact e))
  exact beq_eq_false_iff_ne.2 e
section
variable {N : Nat} {w w' : World} {b : Nat} {F : Nat → Prop} {T : Tx} {B : Nat}
theorem ind_rel {k : Nat} (hs : Sane T.S T.cs.length) (h2 : T.S.lo ≤ k) (h3 : k ≤ T.S.hi) : T.S.lo ≤ indA T k ∧ indA T k ≤ indZ T k ∧ indZ T k ≤ T.S.hi ∧ indA T k ≤ k := by
  have hB2 : lineB T.cs T.S.lo k ≤ k := lineB_le k h2
  have hB1 : T.S.lo ≤ lineB T.cs T.S.lo k := lineB_ge k
  have hE1 : k ≤ lineE T.cs T.S.hi k := lineE_ge k
  have hE2 : lineE T.cs T.S.hi k ≤ T.S.hi := lineE_le k h3
  have hq := indN_is T.cs (b := lineB T.cs T.S.lo k) (e := lineE T.cs T.S.hi k) (by omega)
  unfold indA indZ
  omega
set_option maxRecDepth 100000 in
set_option maxHeartbeats 4000000 in
theorem SetIndent_ok (hT : Tabs N w) (hR : Rules N w) (h : PB N w b F T B) (hF : edF N F) (hB : B ≤ 600000) (hro : T.S.ro = false) (hlen : T.cs.length ≤ 60000) (k col tab : Nat) (tabs : Bool) (hc : col ≤ 1000) (ht1 : 1 ≤ tab) (ht2 : tab ≤ 64) (h2 : T.S.lo ≤ k) (h3 : k ≤ T.S.hi) :
    Calls Tryz.prog 17 #[pAt b, .int .i64 k, .int .i64 col, .int .i64 tab, .bool tabs] w fun r w' => r = .returned (.int .i64 0) ∧ Only F w w' ∧ PB N w' b (grow F w.heap.size) (sindT T k col tab tabs) (B + T.cs.length + 8) := by
  have hrel := ind_rel h.sane h2 h3
  have hsn := h.sane
  obtain ⟨s, hs⟩ : ∃ s, s = indT col tab tabs := ⟨_, rfl⟩
  obtain ⟨x, hx⟩ : ∃ x, x = indA T k := ⟨_, rfl⟩
  obtain ⟨y, hy⟩ : ∃ y, y = indZ T k := ⟨_, rfl⟩
  rw [← hx, ← hy] at hrel
  have HIT := Lib.hid (fun w => (hs ▸ itext_ok col tab tabs hc ht1 ht2 w : Calls Tryz.prog 27 #[.int .i64 col, .int .i64 tab, .bool tabs] w fun e w' => e = .returned (.tuple #[.string s, .int .i64 0]) ∧ Below w.heap.size w w'))
  have hsz : s.size ≤ 2000 := by rw [hs]; have := indT_size col tab tabs; omega
  have hch : chrs s = indC col tab tabs := by rw [hs]; exact (chrs_indT _ _ _).1
  have hvl : (charsD s.data.toList).isSome = true := by rw [hs]; exact (chrs_indT _ _ _).2
  have hcl := chrs_len s
  have hreach : reachB T.S (x : Int) (y : Int) = true := reach_iff.2 (by omega)
  have hrep : repE T (x : Int) (y : Int) s = 0 := by
    unfold repE
    rw [if_pos hreach]
    unfold fitsE
    rw [vld_chars, if_pos hvl, rlenG_chars hvl, if_neg (by omega)]
  have htv : textV T (x : Int) (y : Int) = encS (subL T.cs x y) := by unfold textV; rw [if_pos hreach]; rfl
  have hde : delE T (x : Int) (y : Int) = 0 := by unfold delE; rw [if_pos hreach]
  obtain ⟨wa, hwa⟩ : ∃ wa, wa = encS (subL T.cs x y) := ⟨_, rfl⟩
  obtain ⟨T2, hT2⟩ : ∃ T2, T2 = sindT T k col tab tabs := ⟨_, rfl⟩
  rw [← hT2]
  have H := Lib.hid h
  have HT := Lib.hid hT
  have HR := Lib.hid hR
  have HH := Lib.hid (⟨hF, hB, hro, hsz, h2, h3⟩ : _ ∧ _ ∧ _ ∧ _ ∧ _ ∧ _)
  have HV := Lib.hid (⟨hx, hy, hs, hwa, hT2, hch⟩ : _ ∧ _ ∧ _ ∧ _ ∧ _ ∧ _)
  have HE := Lib.hid (⟨hrep, htv, hde⟩ : _ ∧ _ ∧ _)
  have hlo := hsn.l1
  have Hlo := Lib.hid hlo
  clear hT hR h hF hB hro hlen hc ht1 ht2 hrel hsn hs hx hy hsz hch hvl hcl hreach hrep htv hde hwa hT2 hlo h2 h3
  go_enter Tryz.func17, Tryz.ntmps17
  go_wp2_with fail
  refine (HIT.out _).mono ?_
  rintro e w1 ⟨rfl, hb1⟩
  have B1 := Lib.hid hb1
  clear hb1 HIT
  go_wp2_with fail
  have HB0 := below1 w1 (.cells #[.int .i64 k] 3)
  have hcx := (MapKept.heap_alloc w1 (.cells #[.int .i64 k] 3)).1
  have hlk := look_ok ((H.out.up (up2 B1.out HB0)).r) tab k w1.heap.size 1 (by simp only [World.cell?, hcx]; rfl) HH.out.2.2.2.2.1 HH.out.2.2.2.2.2
  have HLK := Lib.hid hlk
  have B2 := Lib.hid (up2 B1.out HB0)
  clear hcx hlk HB0
  generalize w1.alloc (.cells #[.int .i64 k] 3) = W at *
  refine HLK.out.mono ?_
  rintro e w2 ⟨rfl, hb2⟩
  have B3 := Lib.hid (up2 B2.out hb2)
  clear hb2 HLK B2 B1
  go_wp2_with fail
  have HB4 := below1 w2 (.cells #[.pointer (some ⟨b, 0, none⟩), .int .i64 T.S.lo, .int .i64 T.S.hi, .int .i64 tab] 83)
  have hv := VwI.made w2 b T.S.lo T.S.hi tab (T := 83)
  have B4 := Lib.hid (up2 B3.out HB4)
  have HVW := Lib.hid hv
  clear HB4 hv B3
  generalize w2.alloc (.cells #[.pointer (some ⟨b, 0, none⟩), .int .i64 T.S.lo, .int .i64 T.S.hi, .int .i64 tab] 83) = W2 at *
  have X0 : ∀ X : UpW W2.heap.size W2, X.w.cell? ⟨w2.heap.size, 0, none⟩ = some (.pointer (some ⟨b, 0, none⟩)) := fun X => (HVW.out.up X.up).c0
  have X1 : ∀ X : UpW W2.heap.size W2, X.w.cell? ⟨w2.heap.size, 1, none⟩ = some (.int .i64 T.S.lo) := fun X => (HVW.out.up X.up).c1
  have X2 : ∀ X : UpW W2.heap.size W2, X.w.cell? ⟨w2.heap.size, 2, none⟩ = some (.int .i64 T.S.hi) := fun X => (HVW.out.up X.up).c2
  have X3 : ∀ X : UpW W2.heap.size W2, X.w.cell? ⟨w2.heap.size, 3, none⟩ = some (.int .i64 tab) := fun X => (HVW.out.up X.up).c3
  have HBG := Lib.hid (fun (V : World) (hb : Below W2.heap.size W2 V) => vbegin ((H.out.up B4.out).up hb).r tab k Hlo.out HH.out.2.2.2.2.1 HH.out.2.2.2.2.2)
  have HIN := Lib.hid (fun (V : World) (hb : Below W2.heap.size W2 V) => vindent ((H.out.up B4.out).up hb).r tab k HH.out.2.2.2.2.1 HH.out.2.2.2.2.2)
  rw [show lineB T.cs T.S.lo k = x from HV.out.1.symm] at HBG
  rw [show indN T.cs (lineB T.cs T.S.lo k) (lineE T.cs T.S.hi k) = y from HV.out.2.1.symm] at HIN
  refine wp_region_up W2.heap.size (by kernel_rfl) (by kernel_rfl) ?_
  repeat (go_big_quiet_step (first | exact Calls.up ‹_› (Nat.le_refl _) (HBG.out _ (UpW.up ‹_›)) | exact Calls.up ‹_› (Nat.le_refl _) (HIN.out _ (UpW.up ‹_›))))
  refine wpQuiet_nil ?_
  rintro ⟨w3, hb3⟩
  dsimp only
  have B5 := Lib.hid (up2 B4.out hb3)
  clear X0 X1 X2 X3 HBG HIN hb3 HVW B4
  go_wp2_with fail
  have hpt := pText (H.out.up B5.out) (x : Int) (y : Int)
  rw [HE.out.2.1, HE.out.2.2, ← HV.out.2.2.2.1] at hpt
  refine hpt.mono ?_
  rintro e w4 ⟨rfl, hb4⟩
  have B6 := Lib.hid (up2 B5.out hb4)
  clear hb4 hpt B5
  by_cases heq : wa = s
  · have HQ := Lib.hid heq
    subst heq
    have e0 : (wa.toList == wa.toList) = true := by simp
    go_wp2_with fail
    go_ret
    refine ⟨rfl, ?_⟩
    have e2 : T2 = T := by
      rw [HV.out.2.2.2.2.1]; unfold sindT
      rw [if_pos (by rw [← HV.out.1, ← HV.out.2.1, ← HV.out.2.2.1, ← HV.out.2.2.2.1])]
    rw [e2]
    exact H.out.stay B6.out (T.cs.length + 8)
  · have e0 := str_ne1 heq
    have e1 := str_ne1 (fun q => heq q.symm)
    have HQ := Lib.hid heq
    have hbr := bReplace (HT.out.up B6.out) (HR.out.up B6.out) (H.out.up B6.out) HH.out.1 (by have := HH.out.2.1; omega) HH.out.2.2.1 (x : Int) (y : Int) s (by have := HH.out.2.2.2.1; omega)
    rw [HE.out.1, if_pos rfl, Int.toNat_natCast, Int.toNat_natCast, HV.out.2.2.2.2.2] at hbr
    have HBR := Lib.hid hbr
    clear hbr heq
    go_wp2_with fail
    refine HBR.out.mono ?_
    rintro e w5 ⟨rfl, h5⟩
    have H5 := Lib.hid (PB.then (T1 := T) (B1 := B) B6.out h5)
    clear h5
    go_wp2_with fail
    go_ret
    refine ⟨rfl, ?_⟩
    have e2 : T2 = repT T x y (indC col tab tabs) := by
      rw [HV.out.2.2.2.2.1]; unfold sindT
      rw [if_neg (by rw [← HV.out.1, ← HV.out.2.1, ← HV.out.2.2.1, ← HV.out.2.2.2.1]; exact HQ.out), ← HV.out.1, ← HV.out.2.1]
    rw [e2]
    exact H5.out
end
end Go.Proofs.YtphdkcdkhklicaaGreatDoor
/- A plain buffer in plain Lean: what an edit makes of it. -/
namespace Go.Proofs.YtphdkcdkhklicaaGreatDoor
open Go.RowKit Go.Lib
set_option linter.unusedVariables false
set_option linter.unusedSimpArgs false
/-- All of the text is accessible; the buffer is not read-only. -/
structure Wide (T : Tx) : Prop where
  lo : T.S.lo = 1
  hi : T.S.hi = T.cs.length + 1
  ro : T.S.ro = false
theorem insN_zero {a x : Nat} {p : Bool} : insN a 0 x p = x := by unfold insN; split <;> omega
theorem putT_cs (T : Tx) (a : Nat) (s : List Nat) (bf : Bool) : (putT T a s bf).cs = insC T.cs a s := by
  unfold putT
  split
  · rename_i h
    have e : s = [] := List.eq_nil_of_length_eq_zero h
    subst e; unfold insC; simp
  · rfl
theorem putT_pt (T : Tx) (a : Nat) (s : List Nat) (bf : Bool) : (putT T a s bf).S.pt = insN a s.length T.S.pt bf := by
  unfold putT
  split
  · rename_i h; rw [h, insN_zero]
  · rfl
theorem delN_same {x p : Nat} : delN x x p = p := by unfold delN; (repeat' split) <;> omega
theorem delC_same (cs : List Nat) (x : Nat) : delC cs x x = cs := by unfold delC; simp
theorem takeT_cs (T : Tx) (x y : Nat) : (takeT T x y).cs = delC T.cs x y := by
  unfold takeT
  split
  · rename_i h; subst h; rw [delC_same]
  · rfl
theorem takeT_pt (T : Tx) (x y : Nat) : (takeT T x y).S.pt = delN x y T.S.pt := by
  unfold takeT
  split
  · rename_i h; subst h; rw [delN_same]
  · rfl
theorem Wide.put {T : Tx} (h : Wide T) {a : Nat} {s : List Nat} {bf : Bool} (h1 : 1 ≤ a) (h2 : a ≤ T.cs.length + 1) : Wide (putT T a s bf) := by
  have hl := h.lo; have hh := h.hi
  unfold putT
  split
  · exact h
  · refine ⟨?_, ?_, h.ro⟩
    · show insN a s.length T.S.lo false = 1
      unfold insN; rw [if_neg (by rintro (q | q); omega; exact absurd q.2 (by simp))]; exact hl
    · show insN a s.length T.S.hi true = (insC T.cs a s).length + 1
      rw [insC_len]
      unfold insN
      rw [if_pos (by rcases Nat.lt_or_ge a T.S.hi with q | q; exact .inl q; exact .inr ⟨by omega, rfl⟩)]; omega
theorem Wide.take {T : Tx} (h : Wide T) {x y : Nat} (h1 : 1 ≤ x) (h2 : x ≤ y) (h3 : y ≤ T.cs.length + 1) : Wide (takeT T x y) := by
  have hl := h.lo; have hh := h.hi
  unfold takeT
  split
  · exact h
  · rename_i hne
    refine ⟨?_, ?_, h.ro⟩
    · show delN x y T.S.lo = 1
      unfold delN; rw [if_neg (by omega), if_neg (by omega)]; exact hl
    · show delN x y T.S.hi = (delC T.cs x y).length + 1
      rw [delC_len h1 h2 h3]
      unfold delN; rw [if_pos (by omega)]; omega
theorem Wide.pt {T : Tx} (h : Wide T) (p : Nat) : Wide { T with S := { T.S with pt := p } } := ⟨h.lo, h.hi, h.ro⟩
theorem Wide.ins {T : Tx} (h : Wide T) {s : List Nat} {bf : Bool} (h1 : 1 ≤ T.S.pt) (h2 : T.S.pt ≤ T.cs.length + 1) : Wide (insT T s bf) := (h.put h1 h2).pt _
theorem Wide.rep {T : Tx} (h : Wide T) {x y : Nat} {s : List Nat} (h1 : 1 ≤ x) (h2 : x ≤ y) (h3 : y ≤ T.cs.length + 1) : Wide (repT T x y s) :=
  (h.take h1 h2 h3).put h1 (by rw [takeT_len h1 h2 h3]; omega)
/-- The three parts. -/
def head3 (T : Tx) (x : Nat) : ByteArray := encS (subL T.cs 1 x)
def tail3 (T : Tx) (y : Nat) : ByteArray := encS (subL T.cs y (T.cs.length + 1))
theorem subL_head (cs : List Nat) (x : Nat) : subL cs 1 x = cs.take (x - 1) := by unfold subL; simp
theorem subL_tail (cs : List Nat) {y : Nat} (h : 1 ≤ y) : subL cs y (cs.length + 1) = cs.drop (y - 1) := by
  unfold subL; rw [List.take_of_length_le (by simp; omega)]
theorem parts_put (T : Tx) {a : Nat} {s : ByteArray} {bf : Bool} (h1 : 1 ≤ a) (hv : (charsD s.data.toList).isSome = true) : head3 T a ++ s ++ tail3 T a = encS (putT T a (chrs s) bf).cs := by
  unfold head3 tail3
  rw [putT_cs, subL_head, subL_tail _ h1]
  conv => lhs; rw [← encS_chrs hv]
  rw [encS_append, encS_append]; rfl
theorem parts_ins (T : Tx) {s : ByteArray} {bf : Bool} (h1 : 1 ≤ T.S.pt) (hv : (charsD s.data.toList).isSome = true) : head3 T T.S.pt ++ s ++ tail3 T T.S.pt = encS (insT T (chrs s) bf).cs := parts_put T h1 hv
theorem parts_take (T : Tx) {x y : Nat} (h1 : 1 ≤ x) (hxy : x ≤ y) : head3 T x ++ ⟨#[]⟩ ++ tail3 T y = encS (takeT T x y).cs := by
  unfold head3 tail3
  rw [takeT_cs, subL_head, subL_tail _ (by omega), show (⟨#[]⟩ : ByteArray) = encS [] from rfl, encS_append, encS_append, List.append_nil]; rfl
theorem parts_rep (T : Tx) {x y : Nat} {s : ByteArray} (h1 : 1 ≤ x) (hxy : x ≤ y) (hy : y ≤ T.cs.length + 1) (hv : (charsD s.data.toList).isSome = true) : head3 T x ++ s ++ tail3 T y = encS (repT T x y (chrs s)).cs := by
  unfold head3 tail3 repT
  rw [putT_cs, takeT_cs, subL_head, subL_tail _ (by omega)]
  conv => lhs; rw [← encS_chrs hv]
  rw [encS_append, encS_append]
  congr 1
  unfold insC delC
  rw [List.take_append_of_le_length (by simp; omega), List.drop_append_of_le_length (by simp; omega), List.take_take]
  simp
theorem repT_pt (T : Tx) (x y : Nat) (s : List Nat) : (repT T x y s).S.pt = insN x s.length (delN x y T.S.pt) false := by unfold repT; rw [putT_pt, takeT_pt]
/-- What fits answers for short strings. -/
theorem fits_short {T : Tx} {s : ByteArray} (hl : T.cs.length ≤ 10000) (hs : s.size ≤ 60) {less : Int} (h0 : 0 ≤ less) : fitsE s T.cs.length less = if (charsD s.data.toList).isSome = true then 0 else 5 := by
  have := chrs_len s
  unfold fitsE
  rw [vld_chars]
  by_cases hv : (charsD s.data.toList).isSome = true
  · rw [if_pos hv, if_pos hv, rlenG_chars hv, if_neg (by omega)]
  · rw [if_neg hv, if_neg hv]
end Go.Proofs.YtphdkcdkhklicaaGreatDoor
/- A plain buffer in plain Lean: undoing one replacement gives the text back. -/
namespace Go.Proofs.YtphdkcdkhklicaaGreatDoor
open Go.RowKit Go.Lib
set_option linter.unusedVariables false
set_option linter.unusedSimpArgs false
/-- What a change that is undone makes of the text. -/
def revCs (cs : List Nat) (c : Chg) : List Nat := if c.k = 1 then delC cs c.a.toNat c.b.toNat else if c.k = 2 then insC cs c.a.toNat (chrs c.tx) else cs
theorem revT_cs (T : Tx) (c : Chg) : (revT T c).cs = revCs T.cs c := by
  unfold revT revCs
  split
  · exact takeT_cs _ _ _
  · split
    · exact putT_cs _ _ _ _
    · split <;> rfl
theorem revsT_cs : ∀ (T : Tx) (L : List Chg), (revsT T L).cs = L.foldl revCs T.cs
  | T, [] => rfl
  | T, c :: L => by
    show (revsT (revT T c) L).cs = _
    rw [revsT_cs, revT_cs]; rfl
def RevOkC (cs : List Nat) (c : Chg) : Prop :=
  (c.k = 1 ∧ 1 ≤ c.a ∧ c.a ≤ c.b ∧ c.b ≤ cs.length + 1) ∨ (c.k = 2 ∧ 1 ≤ c.a ∧ c.a ≤ cs.length + 1 ∧ (charsD c.tx.data.toList).isSome = true ∧ c.tx.size ≤ 262144 ∧ cs.length + (chrs c.tx).length ≤ 65536) ∨ (c.k = 4 ∧ 0 ≤ c.a) ∨ c.k = 6
def RevsOkC : List Nat → List Chg → Prop
  | _, [] => True
  | cs, c :: L => RevOkC cs c ∧ RevsOkC (revCs cs c) L
theorem revs_of : ∀ (T : Tx) (L : List Chg), RevsOkC T.cs L → RevsOk T L
  | T, [], _ => trivial
  | T, c :: L, h => ⟨h.1, revs_of (revT T c) L (by rw [revT_cs]; exact h.2)⟩
theorem mergeB_no {O : List Chg} {c : Chg} (h : ¬ c.k = 1 ∨ ¬ (O.getLastD chg0).k = 1) : mergeB O c = false := by
  unfold mergeB
  cases hL : O.getLast? with
  | none => rfl
  | some x =>
    have hx : O.getLastD chg0 = x := by rw [List.getLastD_eq_getLast?, hL]; rfl
    rcases h with h | h
    · simp [h]
    · rw [hx] at h; simp [h]
theorem logAdd_no {O : List Chg} {c : Chg} (h : ¬ c.k = 1 ∨ ¬ (O.getLastD chg0).k = 1) : logAdd O c = O ++ [c] := by
  unfold logAdd; rw [mergeB_no h]; simp
/-- What the first note of a group lays before it. -/
def notePre (S : BS) : List Chg := (if S.tick = S.clean then [cleanC] else []) ++ [pointC S.pt]
theorem noteO_first {S : BS} {c : Chg} (he : S.empty = true) : noteO S [] c = notePre S ++ [c] := by
  unfold noteO notePre
  rw [if_pos he]
  have e0 : logAdd ([] : List Chg) cleanC = [cleanC] := logAdd_no (.inl (by decide))
  split
  · rename_i h
    rw [e0, logAdd_no (c := pointC S.pt) (.inl (by simp)), logAdd_no (c := c) (.inr (by simp))]
  · rename_i h
    rw [logAdd_no (c := pointC S.pt) (.inl (by simp)), logAdd_no (c := c) (.inr (by simp))]
theorem noteO_next {S : BS} {O : List Chg} {c : Chg} (he : S.empty = false) (h : ¬ c.k = 1 ∨ ¬ (O.getLastD chg0).k = 1) : noteO S O c = O ++ [c] := by
  unfold noteO; rw [if_neg (by rw [he]; simp)]; exact logAdd_no h
theorem npre_ok (S : BS) (cs : List Nat) : RevsOkC cs (notePre S).reverse ∧ (notePre S).reverse.foldl revCs cs = cs ∧ revsC (notePre S).reverse ≤ 8 ∧ (notePre S).length ≤ 2 := by
  unfold notePre
  split
  · refine ⟨⟨.inr (.inr (.inl ⟨rfl, by simp⟩)), .inr (.inr (.inr rfl)), trivial⟩, rfl, by simp [revsC, revC], by simp⟩
  · refine ⟨⟨.inr (.inr (.inl ⟨rfl, by simp⟩)), trivial⟩, rfl, by simp [revsC, revC], by simp⟩
theorem del_ins (cs s : List Nat) {x : Nat} (h1 : 1 ≤ x) (h2 : x ≤ cs.length + 1) : delC (insC cs x s) x (x + s.length) = cs := by
  have e1 : (cs.take (x - 1)).length = x - 1 := by simp; omega
  unfold delC insC
  rw [List.append_assoc, List.take_append_of_le_length (by omega), List.take_take, Nat.min_self]
  rw [show x + s.length - 1 = (x - 1) + s.length by omega, ← List.drop_drop, List.drop_append_of_le_length (by omega), List.drop_take_self]
  rw [List.nil_append, List.drop_left, List.take_append_drop]
theorem ins_del (cs : List Nat) {x y : Nat} (h1 : 1 ≤ x) (hxy : x ≤ y) (hy : y ≤ cs.length + 1) : insC (delC cs x y) x (subL cs x y) = cs := by
  have e1 : (cs.take (x - 1)).length = x - 1 := by simp; omega
  unfold insC delC subL
  rw [List.take_append_of_le_length (by omega), List.take_take, Nat.min_self, List.drop_append_of_le_length (by omega), List.drop_take_self, List.nil_append]
  have e2 : cs.drop (y - 1) = (cs.drop (x - 1)).drop (y - x) := by rw [List.drop_drop]; congr 1; omega
  rw [e2, List.append_assoc, List.take_append_drop, List.take_append_drop]
theorem subL_len {cs : List Nat} {x y : Nat} (h1 : 1 ≤ x) (hy : y ≤ cs.length + 1) : (subL cs x y).length = y - x := by unfold subL; simp; omega
/-- Undoing one replacement. -/
theorem undo_rep {T : Tx} {x y : Nat} {s : List Nat} (he : T.S.empty = true) (hO : T.O = []) (h1 : 1 ≤ x) (hxy : x ≤ y) (hy : y ≤ T.cs.length + 1) (hcn : ∀ c ∈ T.cs, isN c) (hlen : T.cs.length ≤ 60000) (hs : s.length ≤ 5000) (hne : ¬ (x = y ∧ s = [])) :
    ∃ g, logShut (repT T x y s).G (repT T x y s).O = T.G ++ [g] ∧ g.length ≤ 4 ∧ RevsOkC (repT T x y s).cs g.reverse ∧ g.reverse.foldl revCs (repT T x y s).cs = T.cs ∧ revsC g.reverse ≤ s.length + 20 := by
  obtain ⟨p1, p2, p3, p4⟩ := npre_ok T.S T.cs
  have hsub := chrs_encS (subL_isN hcn x y)
  have hsz := encS_le (subL T.cs x y)
  have hsl := subL_len (cs := T.cs) h1 hy
  have shut1 : ∀ (G : List (List Chg)) (O : List Chg), O ≠ [] → logShut G O = G ++ [O] := fun G O h => by unfold logShut; rw [if_neg h]
  have rc : ∀ (c : Chg) (L : List Chg), revsC (c :: L) = revC c + revsC L := fun c L => by unfold revsC; simp
  by_cases hs0 : s = []
  · subst hs0
    have hlt : ¬ x = y := fun e => hne ⟨e, rfl⟩
    have hT : repT T x y [] = { T with S := takeS T.S x y, cs := delC T.cs x y, O := noteO T.S T.O (delChg x (encS (subL T.cs x y))) } := by
      unfold repT putT takeT; simp [hlt]
    rw [hT]
    dsimp only
    rw [hO, noteO_first he]
    refine ⟨_, shut1 _ _ (by simp), by simp; omega, ?_, ?_, ?_⟩
    · rw [List.reverse_append]
      refine ⟨.inr (.inl ⟨rfl, by simp; omega, by rw [delC_len h1 hxy hy]; simp; omega, hsub.2, by dsimp only; omega, ?_⟩), ?_⟩
      · rw [delC_len h1 hxy hy, hsub.1, hsl]; omega
      · show RevsOkC (insC (delC T.cs x y) ((x : Int)).toNat (chrs (encS (subL T.cs x y)))) _
        rw [Int.toNat_natCast, hsub.1, ins_del _ h1 hxy hy]; exact p1
    · rw [List.reverse_append, List.foldl_append]
      show List.foldl revCs (insC (delC T.cs x y) ((x : Int)).toNat (chrs (encS (subL T.cs x y)))) _ = _
      rw [Int.toNat_natCast, hsub.1, ins_del _ h1 hxy hy]; exact p2
    · rw [List.reverse_append, show [delChg x (encS (subL T.cs x y))].reverse ++ (notePre T.S).reverse = delChg x (encS (subL T.cs x y)) :: (notePre T.S).reverse from rfl, rc]
      have : revC (delChg x (encS (subL T.cs x y))) = 4 := rfl
      omega
  · have hsp : ¬ s.length = 0 := fun e => hs0 (List.eq_nil_of_length_eq_zero e)
    have hi : ((x + s.length : Nat) : Int).toNat = x + s.length := Int.toNat_natCast _
    by_cases hlt : x = y
    · subst hlt
      have hT : repT T x x s = { T with S := putS T.S x s.length false, cs := insC T.cs x s, O := noteO T.S T.O (insChg x s.length) } := by
        unfold repT putT takeT; simp [hs0]
      rw [hT]
      dsimp only
      rw [hO, noteO_first he]
      refine ⟨_, shut1 _ _ (by simp), by simp; omega, ?_, ?_, ?_⟩
      · rw [List.reverse_append]
        refine ⟨.inl ⟨rfl, by simp; omega, by simp; omega, by rw [insC_len]; simp; omega⟩, ?_⟩
        show RevsOkC (delC (insC T.cs x s) ((x : Int)).toNat ((x + s.length : Nat) : Int).toNat) _
        rw [Int.toNat_natCast, hi, del_ins _ _ h1 hy]; exact p1
      · rw [List.reverse_append, List.foldl_append]
        show List.foldl revCs (delC (insC T.cs x s) ((x : Int)).toNat ((x + s.length : Nat) : Int).toNat) _ = _
        rw [Int.toNat_natCast, hi, del_ins _ _ h1 hy]; exact p2
      · rw [List.reverse_append, show [insChg x s.length].reverse ++ (notePre T.S).reverse = insChg x s.length :: (notePre T.S).reverse from rfl, rc]
        have : revC (insChg x s.length) = s.length + 4 := by
          show ((x + s.length : Nat) : Int).toNat - ((x : Nat) : Int).toNat + 4 = _
          rw [hi, Int.toNat_natCast]; omega
        omega
    · have hT : repT T x y s = { T with S := putS (takeS T.S x y) x s.length false, cs := insC (delC T.cs x y) x s, O := noteO (takeS T.S x y) (noteO T.S T.O (delChg x (encS (subL T.cs x y)))) (insChg x s.length) } := by
        unfold repT putT takeT; simp [hs0, hlt]
      rw [hT]
      dsimp only
      have hdl := delC_len h1 hxy hy
      rw [hO, noteO_first he, noteO_next (S := takeS T.S x y) rfl (.inr (by simp))]
      refine ⟨_, shut1 _ _ (by simp), by simp; omega, ?_, ?_, ?_⟩
      · rw [List.reverse_append, List.reverse_append]
        refine ⟨.inl ⟨rfl, by simp; omega, by simp; omega, by rw [insC_len, hdl]; simp; omega⟩, ?_⟩
        show RevsOkC (delC (insC (delC T.cs x y) x s) ((x : Int)).toNat ((x + s.length : Nat) : Int).toNat) _
        rw [Int.toNat_natCast, hi, del_ins _ _ h1 (by omega)]
        refine ⟨.inr (.inl ⟨rfl, by simp; omega, by rw [hdl]; simp; omega, hsub.2, by dsimp only; omega, ?_⟩), ?_⟩
        · rw [hdl, hsub.1, hsl]; omega
        · show RevsOkC (insC (delC T.cs x y) ((x : Int)).toNat (chrs (encS (subL T.cs x y)))) _
          rw [Int.toNat_natCast, hsub.1, ins_del _ h1 hxy hy]; exact p1
      · rw [List.reverse_append, List.reverse_append, List.foldl_append]
        show List.foldl revCs (delC (insC (delC T.cs x y) x s) ((x : Int)).toNat ((x + s.length : Nat) : Int).toNat) ([delChg x (encS (subL T.cs x y))].reverse ++ (notePre T.S).reverse) = _
        rw [Int.toNat_natCast, hi, del_ins _ _ h1 (by omega), List.foldl_append]
        show List.foldl revCs (insC (delC T.cs x y) ((x : Int)).toNat (chrs (encS (subL T.cs x y)))) _ = _
        rw [Int.toNat_natCast, hsub.1, ins_del _ h1 hxy hy]; exact p2
      · rw [List.reverse_append, List.reverse_append, show [insChg x s.length].reverse ++ ([delChg x (encS (subL T.cs x y))].reverse ++ (notePre T.S).reverse) = insChg x s.length :: delChg x (encS (subL T.cs x y)) :: (notePre T.S).reverse from rfl, rc, rc]
        have e1 : revC (insChg x s.length) = s.length + 4 := by
          show ((x + s.length : Nat) : Int).toNat - ((x : Nat) : Int).toNat + 4 = _
          rw [hi, Int.toNat_natCast]; omega
        have e2 : revC (delChg x (encS (subL T.cs x y))) = 4 := rfl
        omega
end Go.Proofs.YtphdkcdkhklicaaGreatDoor
/- ColumnIndents, in plain Lean: what SetIndent makes of a text. -/
namespace Go.Proofs.YtphdkcdkhklicaaGreatDoor
open Go.RowKit Go.Lib
set_option linter.unusedVariables false
set_option linter.unusedSimpArgs false
/-! ### bytes -/
theorem mem_byte (s : ByteArray) (i : Nat) (h : i < s.size) : s[i] ∈ s.data.toList := by
  have e : s[i] = s.data[i]'h := rfl
  rw [e]; exact Array.mem_toList_iff.2 (Array.getElem_mem h)
theorem encL_ascii : ∀ (L : List Nat), (∀ c ∈ L, c < 128) → encL L = L.map UInt8.ofNat
  | [], _ => rfl
  | c :: L, h => by
    have hc : c < 128 := h c List.mem_cons_self
    rw [encL_cons, encL_ascii L (fun x hx => h x (List.mem_cons_of_mem _ hx)), enc1 (by unfold isN; omega) hc]; rfl
theorem blank_byte {L : List Nat} (h : ∀ c ∈ L, c = 32 ∨ c = 9) (i : Nat) (hi : i < (encS L).size) : ((encS L)[i].toNat : Int) = 32 ∨ ((encS L)[i].toNat : Int) = 9 := by
  have hm := mem_byte (encS L) i hi
  rw [encS_list, encL_ascii L (fun c hc => by rcases h c hc with e | e <;> omega), List.mem_map] at hm
  obtain ⟨c, hc, e⟩ := hm
  rw [← e, un8 c (by rcases h c hc with q | q <;> omega)]
  rcases h c hc with q | q <;> omega
theorem head_byte {s : ByteArray} {u : UInt8} {r : List UInt8} (e : s.data.toList = u :: r) (h : 0 < s.size) : s[0] = u := by
  have e1 : s[0] = s.data[0]'h := rfl
  have e2 : s.data[0]'h = s.data.toList[0]'(by rw [e]; simp) := (Array.getElem_toList h).symm
  rw [e1, e2]; simp [e]
theorem enc_head {c : Nat} (h : isN c) : ∃ u r, (Utf8.encode (c : Int)).data.toList = u :: r ∧ (u.toNat = c ∨ 192 ≤ u.toNat) := by
  have hb := h
  unfold isN at hb
  by_cases h1 : c < 128
  · exact ⟨_, _, enc1 h h1, .inl (un8 c (by omega))⟩
  · by_cases h2 : c < 2048
    · exact ⟨_, _, enc2 h h1 h2, .inr (by rw [un8 _ (by omega)]; omega)⟩
    · by_cases h3 : c < 65536
      · exact ⟨_, _, enc3 h h1 h2 h3, .inr (by rw [un8 _ (by omega)]; omega)⟩
      · exact ⟨_, _, enc4 h h1 h2 h3, .inr (by rw [un8 _ (by omega)]; omega)⟩
theorem tail_byte {c : Nat} {L : List Nat} (hc : isN c) (h : ¬ (c = 32 ∨ c = 9)) : ∃ (q : 0 < (encS (c :: L)).size), ¬ ((encS (c :: L))[0].toNat : Int) = 32 ∧ ¬ ((encS (c :: L))[0].toNat : Int) = 9 := by
  obtain ⟨u, r, e, hu⟩ := enc_head hc
  have e2 : (encS (c :: L)).data.toList = u :: (r ++ encL L) := by rw [encS_list, encL_cons, e]; rfl
  have q : 0 < (encS (c :: L)).size := by
    have : (encS (c :: L)).data.toList.length = (encS (c :: L)).size := size_len _
    rw [e2] at this; simp only [List.length_cons] at this; omega
  refine ⟨q, ?_⟩
  rw [head_byte e2 q]
  omega
theorem rep_byte (n i : Nat) (h : i < (repB 32 n).size) : ((repB 32 n)[i].toNat : Int) = 32 := by
  have hm := mem_byte _ i h
  have e : (repB 32 n).data.toList = List.replicate n 32 := by unfold repB; simp
  rw [e] at hm
  rw [(List.mem_replicate.1 hm).2]; rfl
/-! ### a text with a piece turned -/
theorem chr_left {A D : List Nat} {j : Nat} (h1 : 1 ≤ j) (h : j ≤ A.length) : chr (A ++ D) j = chr A j := by
  unfold chr
  rw [List.getD_eq_getElem?_getD, List.getD_eq_getElem?_getD, List.getElem?_append_left (by omega)]
theorem chr_right {A D : List Nat} {j : Nat} (h : A.length + 1 ≤ j) : chr (A ++ D) j = chr D (j - A.length) := by
  unfold chr
  rw [List.getD_eq_getElem?_getD, List.getD_eq_getElem?_getD, List.getElem?_append_right (by omega), show j - 1 - A.length = j - A.length - 1 by omega]
theorem chr_drop {cs : List Nat} {m j : Nat} (h : 1 ≤ j) : chr (cs.drop m) j = chr cs (m + j) := by
  unfold chr
  rw [List.getD_eq_getElem?_getD, List.getD_eq_getElem?_getD, List.getElem?_drop, show m + (j - 1) = m + j - 1 by omega]
theorem chr_take {cs : List Nat} {m j : Nat} (h1 : 1 ≤ j) (h : j ≤ m) : chr (cs.take m) j = chr cs j := by
  unfold chr
  rw [List.getD_eq_getElem?_getD, List.getD_eq_getElem?_getD, List.getElem?_take, if_pos (by omega)]
/-- A text with another piece from x to y. -/
def newC (cs : List Nat) (x y : Nat) (I : List Nat) : List Nat := cs.take (x - 1) ++ (I ++ cs.drop (y - 1))
section
variable {cs I : List Nat} {x y : Nat}
theorem newC_len (h1 : 1 ≤ x) (hxy : x ≤ y) (hy : y ≤ cs.length + 1) : (newC cs x y I).length = cs.length - (y - x) + I.length := by unfold newC; simp; omega
theorem newC_head (h1 : 1 ≤ x) (hx : x ≤ cs.length + 1) {j : Nat} (hj1 : 1 ≤ j) (hj : j < x) : chr (newC cs x y I) j = chr cs j := by
  unfold newC
  rw [chr_left hj1 (by simp; omega), chr_take hj1 (by omega)]
theorem newC_mid (h1 : 1 ≤ x) (hx : x ≤ cs.length + 1) {j : Nat} (hj : j < I.length) : chr (newC cs x y I) (x + j) = chr I (j + 1) := by
  have e : (cs.take (x - 1)).length = x - 1 := by simp; omega
  unfold newC
  rw [chr_right (by omega), e, show x + j - (x - 1) = j + 1 by omega, chr_left (by omega) (by omega)]
theorem newC_tail (h1 : 1 ≤ x) (hx : x ≤ cs.length + 1) (hy : 1 ≤ y) {j : Nat} : chr (newC cs x y I) (x + I.length + j) = chr cs (y + j) := by
  have e : (cs.take (x - 1)).length = x - 1 := by simp; omega
  unfold newC
  rw [chr_right (by omega), e, chr_right (by omega), chr_drop (by omega)]
  congr 1; omega
theorem newC_self (h1 : 1 ≤ x) (hxy : x ≤ y) (hy : y ≤ cs.length + 1) : newC cs x y (subL cs x y) = cs := by
  unfold newC subL
  have e2 : cs.drop (y - 1) = (cs.drop (x - 1)).drop (y - x) := by rw [List.drop_drop]; congr 1; omega
  rw [e2, List.take_append_drop, List.take_append_drop]
theorem newC_sub (h1 : 1 ≤ x) (hx : x ≤ cs.length + 1) : subL (newC cs x y I) x (x + I.length) = I := by
  have e : (cs.take (x - 1)).length = x - 1 := by simp; omega
  unfold newC subL
  rw [List.drop_append_of_le_length (by omega), List.drop_take_self, List.nil_append, show x + I.length - x = I.length by omega, List.take_left]
end
theorem chr_mem {L : List Nat} {j : Nat} (h1 : 1 ≤ j) (h : j ≤ L.length) : chr L j ∈ L := by
  unfold chr
  rw [List.getD_eq_getElem?_getD, List.getElem?_eq_getElem (by omega)]
  exact List.getElem_mem _
/-- Where the indentation of a line lies, behind the change. -/
theorem ind_new {cs I : List Nat} {k x y : Nat} (h1 : 1 ≤ k) (h2 : k ≤ cs.length + 1) (hx : x = lineB cs 1 k) (hy : y = indN cs (lineB cs 1 k) (lineE cs (cs.length + 1) k)) (hI : ∀ c ∈ I, c = 32 ∨ c = 9) :
    lineB (newC cs x y I) 1 x = x ∧ indN (newC cs x y I) x (lineE (newC cs x y I) ((newC cs x y I).length + 1) x) = x + I.length ∧ lineB (newC cs x y I) 1 (x + I.length) = x := by
  have b1 : 1 ≤ lineB cs 1 k := lineB_ge k
  have b2 : lineB cs 1 k ≤ k := lineB_le k h1
  have e1 : k ≤ lineE cs (cs.length + 1) k := lineE_ge k
  have e2 : lineE cs (cs.length + 1) k ≤ cs.length + 1 := lineE_le k h2
  have e3 := lineE_at (cs := cs) (hi := cs.length + 1) k h2
  obtain ⟨q1, q2, q3, q4⟩ := indN_is cs (b := lineB cs 1 k) (e := lineE cs (cs.length + 1) k) (by omega)
  have b3 := lineB_at (cs := cs) (lo := 1) k
  rw [← hy] at q1 q2 q3 q4
  rw [← hx] at b1 b2 b3 q1 q3
  have hmid : ∀ j, x ≤ j → j < x + I.length → chr (newC cs x y I) j = 32 ∨ chr (newC cs x y I) j = 9 := fun j g1 g2 => by
    have := newC_mid (cs := cs) (I := I) (x := x) (y := y) b1 (by omega) (j := j - x) (by omega)
    rw [show x + (j - x) = j by omega] at this
    rw [this]
    exact hI _ (chr_mem (by omega) (by omega))
  have hst : x = 1 ∨ 1 < x ∧ chr (newC cs x y I) (x - 1) = 10 := by
    rcases b3 with b | ⟨b, c⟩
    · exact .inl b
    · refine .inr ⟨b, ?_⟩
      rw [newC_head b1 (by omega) (by omega) (by omega)]; exact c
  have hlen := newC_len (cs := cs) (I := I) (x := x) (y := y) b1 q1 (by omega)
  have L1 : lineB (newC cs x y I) 1 x = x := lineB_eq x x b1 (Nat.le_refl _) (fun j g1 g2 => by omega) hst
  have L3 : lineB (newC cs x y I) 1 (x + I.length) = x := lineB_eq _ x b1 (by omega) (fun j g1 g2 => by rcases hmid j g1 g2 with e | e <;> omega) hst
  refine ⟨L1, ?_, L3⟩
  have f1 : x ≤ lineE (newC cs x y I) ((newC cs x y I).length + 1) x := lineE_ge x
  have f2 : lineE (newC cs x y I) ((newC cs x y I).length + 1) x ≤ (newC cs x y I).length + 1 := lineE_le x (by omega)
  have f3 := lineE_at (cs := newC cs x y I) (hi := (newC cs x y I).length + 1) x (by omega)
  have f4 : x + I.length ≤ lineE (newC cs x y I) ((newC cs x y I).length + 1) x := by
    rcases Nat.lt_or_ge (lineE (newC cs x y I) ((newC cs x y I).length + 1) x) (x + I.length) with g | g
    · rcases f3 with a | ⟨_, a⟩
      · omega
      · rcases hmid _ f1 g with e | e <;> omega
    · exact g
  refine indN_eq _ (by omega) f4 hmid ?_
  have ht := newC_tail (cs := cs) (I := I) (x := x) (y := y) b1 (by omega) (by omega) (j := 0)
  rw [Nat.add_zero, Nat.add_zero] at ht
  rw [ht]
  rcases q4 with a | a
  · rcases e3 with c | ⟨_, c⟩
    · left; omega
    · right; rw [a, c]; omega
  · exact .inr a
/-! ### its column -/
theorem col_tabs {cs : List Nat} {tab b : Nat} (ht : 1 ≤ tab) : ∀ k, (∀ j, j < k → chr cs (b + j) = 9) → colN widN cs tab b (b + k) = k * tab
  | 0, _ => by rw [Nat.add_zero, colN_self]; omega
  | k + 1, h => by
    have ih := col_tabs (cs := cs) (b := b) ht k (fun j hj => h j (by omega))
    rw [show b + (k + 1) = (b + k) + 1 by omega, colN_succ b (b + k) (by omega), ih, h k (by omega)]
    unfold afterN
    rw [if_pos rfl, Nat.mul_mod_left, Nat.succ_mul]; omega
theorem wid_space : widN 32 = 1 := by decide
theorem col_spaces {cs : List Nat} {tab b e : Nat} (hb : b ≤ e) : ∀ k, (∀ j, j < k → chr cs (e + j) = 32) → colN widN cs tab b (e + k) = colN widN cs tab b e + k
  | 0, _ => rfl
  | k + 1, h => by
    have ih := col_spaces (cs := cs) (tab := tab) hb k (fun j hj => h j (by omega))
    rw [show e + (k + 1) = (e + k) + 1 by omega, colN_succ b (e + k) (by omega), ih, h k (by omega)]
    unfold afterN
    rw [if_neg (by omega), wid_space]; omega
theorem indC_blank (col tab : Nat) (tabs : Bool) : ∀ c ∈ indC col tab tabs, c = 32 ∨ c = 9 := fun c hc => by
  unfold indC at hc
  simp only [List.mem_append, List.mem_replicate] at hc
  rcases hc with ⟨_, e⟩ | ⟨_, e⟩ <;> omega
theorem indC_length (col tab : Nat) (tabs : Bool) : (indC col tab tabs).length = tabsN col tab tabs + (col - tabsN col tab tabs * tab) := by unfold indC; simp
theorem indC_chr (col tab : Nat) (tabs : Bool) {j : Nat} (h : j < (indC col tab tabs).length) : chr (indC col tab tabs) (j + 1) = if j < tabsN col tab tabs then 9 else 32 := by
  rw [indC_length] at h
  unfold chr indC
  rw [List.getD_eq_getElem?_getD, Nat.add_sub_cancel, List.getElem?_append, List.length_replicate]
  split
  · rename_i g; simp [List.getElem?_replicate, g]
  · rename_i g; simp [List.getElem?_replicate]; rw [if_pos (by omega)]; rfl
theorem ind_col {cs : List Nat} {x y col tab : Nat} {tabs : Bool} (ht : 1 ≤ tab) (h1 : 1 ≤ x) (hx : x ≤ cs.length + 1) :
    colN widN (newC cs x y (indC col tab tabs)) tab x (x + (indC col tab tabs).length) = col := by
  have hm := tabsN_mul col tab tabs
  have hg : ∀ j, j < (indC col tab tabs).length → chr (newC cs x y (indC col tab tabs)) (x + j) = if j < tabsN col tab tabs then 9 else 32 := fun j hj => by
    rw [newC_mid h1 hx hj, indC_chr col tab tabs hj]
  have hl := indC_length col tab tabs
  have c1 := col_tabs (cs := newC cs x y (indC col tab tabs)) (b := x) ht (tabsN col tab tabs) (fun j hj => by rw [hg j (by omega), if_pos hj])
  have c2 := col_spaces (cs := newC cs x y (indC col tab tabs)) (tab := tab) (b := x) (e := x + tabsN col tab tabs) (by omega) (col - tabsN col tab tabs * tab) (fun j hj => by
    rw [Nat.add_assoc, hg _ (by omega), if_neg (by omega)])
  rw [hl, ← Nat.add_assoc, c2, c1]; omega
end Go.Proofs.YtphdkcdkhklicaaGreatDoor
