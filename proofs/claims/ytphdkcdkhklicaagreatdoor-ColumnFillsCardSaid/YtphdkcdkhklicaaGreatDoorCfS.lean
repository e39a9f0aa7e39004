/- package column: look at two positions; Fill. -/
import Derived.Test.YtphdkcdkhklicaaGreatDoorCfR
import Derived.Test.YtphdkcdkhklicaaGreatDoorZ17
import Derived.Test.YtphdkcdkhklicaaGreatDoorZ18
import Derived.Test.YtphdkcdkhklicaaGreatDoorZ04
namespace Go.Proofs.YtphdkcdkhklicaaGreatDoor
open Go.RowKit Go.Lib
set_option linter.unusedVariables false
set_option linter.unusedSimpArgs false
/-- Behind Fill. -/
def fillX (T : Tx) (x y most tab : Nat) : Tx := if encS (subL T.cs x y) = encS (fillT widN most tab (subL T.cs x y)) then T else repT T x y (fillT widN most tab (subL T.cs x y))
theorem subL_in {cs : List Nat} {x y c : Nat} (h : c ∈ subL cs x y) : c ∈ cs := by
  unfold subL at h
  exact List.mem_of_mem_drop (List.mem_of_mem_take h)
section
variable {w w' : World} {v b pt lo hi tab : Nat} {cs : List Nat}
set_option maxHeartbeats 2000000 in
theorem look2_ok (h : BufR w b cs pt lo hi) (tab k k' g cap : Nat) (hx : w.cell? ⟨g, 0, none⟩ = some (.int .i64 k)) (hy : w.cell? ⟨g, 1, none⟩ = some (.int .i64 k')) (h2 : lo ≤ k) (h3 : k ≤ hi) (h4 : lo ≤ k') (h5 : k' ≤ hi) :
    Calls Tryz.prog 43 #[.pointer (some ⟨b, 0, none⟩), .int .i64 tab, .bool true, .slice (some ⟨g, 0, none⟩) 2 cap] w fun e w' => e = .returned (.tuple #[vwV b lo hi tab, .int .i64 0]) ∧ Below w.heap.size w w' := by
  have hl := h.len
  have HH := Lib.hid h
  have hg := lt_of_cell hx
  clear h
  go_enter Tryz.func43, Tryz.ntmps43
  go_wp2_with fail
  have HB0 := Lib.hid (below1 w (.cells #[.pointer none, .int .i64 0, .int .i64 0, .int .i64 0] 83))
  have hblk := (MapKept.heap_alloc w (.cells #[.pointer none, .int .i64 0, .int .i64 0, .int .i64 0] 83)).1
  have hx2 := (World.cell?_of_block (w := w) (a := ⟨g, 0, none⟩) (HB0.out.block g hg)).trans hx
  have hy2 := (World.cell?_of_block (w := w) (a := ⟨g, 1, none⟩) (HB0.out.block g hg)).trans hy
  have hsz : w.heap.size < (w.alloc (.cells #[.pointer none, .int .i64 0, .int .i64 0, .int .i64 0] 83)).heap.size := by simp
  generalize w.alloc (.cells #[.pointer none, .int .i64 0, .int .i64 0, .int .i64 0] 83) = W at *
  have HBf := Lib.hid hblk
  have HX := Lib.hid hx2
  have HY := Lib.hid hy2
  clear hx hy hblk hx2 hy2
  refine (bpoint (HH.out.up HB0.out)).mono ?_
  rintro e w1 ⟨rfl, rfl⟩
  have d0 : ((pt : Int) == (0 : Int)) = false := by simp; omega
  go_wp2_with fail
  refine (breach (HH.out.up HB0.out)).mono ?_
  rintro e w1 ⟨rfl, hb1⟩
  have hblk := (hb1.block _ hsz).trans HBf.out
  have hx1 := (World.cell?_of_block (w := W) (a := ⟨g, 0, none⟩) (hb1.block g (lt_of_cell HX.out))).trans HX.out
  have hy1 := (World.cell?_of_block (w := W) (a := ⟨g, 1, none⟩) (hb1.block g (lt_of_cell HX.out))).trans HY.out
  have HB1 := Lib.hid hb1
  have HK := Lib.hid hblk
  clear hb1 HBf HX HY d0 hblk
  have d1 : decide ((k : Int) < (lo : Int)) = false := decide_eq_false (by omega)
  have d2 : decide ((hi : Int) < (k : Int)) = false := decide_eq_false (by omega)
  have d3 : decide ((k' : Int) < (lo : Int)) = false := decide_eq_false (by omega)
  have d4 : decide ((hi : Int) < (k' : Int)) = false := decide_eq_false (by omega)
  go_wp2_with fail
  go_loopw [13, 32] (fun va vb wr => w1 = wr ∧ ∃ i : Nat, i ≤ 2 ∧ vb = .int .i64 i) (fun _ vb _ => 3 - (intOf vb).toNat)
  case atStart => exact ⟨rfl, 0, by omega, rfl⟩
  case round =>
    obtain ⟨rfl, i, hi1, rfl⟩ := hrel
    rcases (show i = 0 ∨ i = 1 ∨ i = 2 by omega) with rfl | rfl | rfl
    · go_wp2_with fail
      go_roundw
      case rel => exact ⟨trivial, 1, by omega, rfl⟩
      case measure => simp [intOf]
    · go_wp2_with fail
      go_roundw
      case rel => exact ⟨trivial, 2, by omega, rfl⟩
      case measure => simp [intOf]
    · have k0 : w1.cell? ⟨w.heap.size, 0, none⟩ = some (.pointer none) := by simp only [World.cell?, HK.out]; rfl
      have k1 : w1.cell? ⟨w.heap.size, 1, none⟩ = some (.int .i64 0) := by simp only [World.cell?, HK.out]; rfl
      have k2 : w1.cell? ⟨w.heap.size, 2, none⟩ = some (.int .i64 0) := by simp only [World.cell?, HK.out]; rfl
      have k3 : w1.cell? ⟨w.heap.size, 3, none⟩ = some (.int .i64 0) := by simp only [World.cell?, HK.out]; rfl
      have f0 : w1.frozen? ⟨w.heap.size, 0, none⟩ = false := by simp only [World.frozen?, HK.out]; rfl
      have f1 : w1.frozen? ⟨w.heap.size, 1, none⟩ = false := by simp only [World.frozen?, HK.out]; rfl
      have f2 : w1.frozen? ⟨w.heap.size, 2, none⟩ = false := by simp only [World.frozen?, HK.out]; rfl
      have f3 : w1.frozen? ⟨w.heap.size, 3, none⟩ = false := by simp only [World.frozen?, HK.out]; rfl
      clear hx1 hy1
      go_wp2_with fail
      refine bodyPost_ret (v := .tuple #[vwV b lo hi tab, .int .i64 0]) (by simp [results, Tryz.f43, go_sem, k0, k1, k2, k3, f0, f1, f2, f3]) rfl ⟨rfl, ?_⟩
      exact ((((up2 HB0.out HB1.out).setCell (Nat.le_refl _) _).setCell (Nat.le_refl _) _).setCell (Nat.le_refl _) _).setCell (Nat.le_refl _) _
end
section
variable {N : Nat} {w w' : World} {b : Nat} {F : Nat → Prop} {T : Tx} {B : Nat}
set_option maxRecDepth 100000 in
set_option maxHeartbeats 4000000 in
theorem Fill_ok (hT : Tabs N w) (hR : Rules N w) (h : PB N w b F T B) (hF : edF N F) (hB : B ≤ 600000) (hro : T.S.ro = false) (hlen : T.cs.length ≤ 30000) (x y most tab : Nat) (m1 : 1 ≤ most) (m2 : most ≤ 1000) (ht1 : 1 ≤ tab) (ht2 : tab ≤ 64) (h1 : T.S.lo ≤ x) (h2 : x ≤ y) (h3 : y ≤ T.S.hi) (hsz : (encS (subL T.cs x y)).size ≤ 16000) (hfl : (fillT widN most tab (subL T.cs x y)).length ≤ 30000) :
    Calls Tryz.prog 25 #[pAt b, .int .i64 x, .int .i64 y, .int .i64 most, .int .i64 tab] w fun r w' => r = .returned (.int .i64 0) ∧ Only F w w' ∧ PB N w' b (grow F w.heap.size) (fillX T x y most tab) (B + T.cs.length + 8) := by
  have hsn := h.sane
  obtain ⟨wa, hwa⟩ : ∃ wa, wa = encS (subL T.cs x y) := ⟨_, rfl⟩
  obtain ⟨s, hs⟩ : ∃ s, s = encS (fillT widN most tab (subL T.cs x y)) := ⟨_, rfl⟩
  have hN : ∀ c ∈ subL T.cs x y, isN c := fun c hc => h.cn c (subL_in hc)
  have hN2 := fillT_isN widN most tab hN
  have hcw : charsD wa.data.toList = some (subL T.cs x y) := by rw [hwa, encS_list]; exact chars_enc _ hN
  have hft := fun w' (hT : Tabs N w') => (hs ▸ fillText_ok hT hcw (by rw [hwa]; exact hsz) most tab m1 m2 ht1 ht2 (by omega) : Calls Tryz.prog 18 #[.string wa, .int .i64 most, .int .i64 tab] w' fun e w'' => e = .returned (.tuple #[.string s, .int .i64 0]) ∧ Below w'.heap.size w' w'')
  have hch := chrs_encS hN2
  rw [← hs] at hch
  have hss : s.size ≤ 200000 := by
    have := encS_le (fillT widN most tab (subL T.cs x y))
    rw [← hs] at this
    omega
  have hreach : reachB T.S (x : Int) (y : Int) = true := reach_iff.2 (by omega)
  have hrep : repE T (x : Int) (y : Int) s = 0 := by
    unfold repE
    rw [if_pos hreach]
    unfold fitsE
    rw [vld_chars, if_pos hch.2, rlenG_chars hch.2, hch.1, if_neg (by omega)]
  have htv : textV T (x : Int) (y : Int) = encS (subL T.cs x y) := by unfold textV; rw [if_pos hreach]; rfl
  have hde : delE T (x : Int) (y : Int) = 0 := by unfold delE; rw [if_pos hreach]
  obtain ⟨T2, hT2⟩ : ∃ T2, T2 = fillX T x y most tab := ⟨_, rfl⟩
  rw [← hT2]
  have H := Lib.hid h
  have HT := Lib.hid hT
  have HR := Lib.hid hR
  have HH := Lib.hid (⟨hF, hB, hro, hss, h1, h2, h3⟩ : _ ∧ _ ∧ _ ∧ _ ∧ _ ∧ _ ∧ _)
  have HV := Lib.hid (⟨hs, hwa, hT2, hch⟩ : _ ∧ _ ∧ _ ∧ _)
  have HE := Lib.hid (⟨hrep, htv, hde⟩ : _ ∧ _ ∧ _)
  have HFT := fun w' hT => Lib.hid (hft w' hT)
  have HTB := fun w' => Lib.hid (tabbed_ok tab ht1 ht2 w')
  have e1 : decide ((1 : Int) ≤ (most : Int)) = true := decide_eq_true (by omega)
  have e2 : decide ((most : Int) ≤ (1000 : Int)) = true := decide_eq_true (by omega)
  have e3 : decide ((y : Int) < (x : Int)) = false := decide_eq_false (by omega)
  have e4 : (1 ≤ most) = True := eq_true m1
  have e5 : (most ≤ 1000) = True := eq_true m2
  have e6 : (y < x) = False := eq_false (by omega)
  clear hT hR h hF hB hro hlen ht1 ht2 hsn hs hwa hss hch hcw hft hreach hrep htv hde hT2 h1 h2 h3 m1 m2 hN hN2 hsz hfl
  go_enter Tryz.func25, Tryz.ntmps25
  go_wp2_with fail
  refine (HTB w).out.mono ?_
  rintro e w1 ⟨rfl, rfl⟩
  go_wp2_with fail
  have HB0 := below1 w (.cells #[.int .i64 x, .int .i64 y] 3)
  have hcx := (MapKept.heap_alloc w (.cells #[.int .i64 x, .int .i64 y] 3)).1
  have hlk := look2_ok (H.out.up HB0).r tab x y w.heap.size 2 (by simp only [World.cell?, hcx]; rfl) (by simp only [World.cell?, hcx]; rfl) HH.out.2.2.2.2.1 (by have := HH.out; omega) (by have := HH.out; omega) HH.out.2.2.2.2.2.2
  have HLK := Lib.hid hlk
  have B2 := Lib.hid HB0
  clear hcx hlk HB0
  generalize w.alloc (.cells #[.int .i64 x, .int .i64 y] 3) = W at *
  refine HLK.out.mono ?_
  rintro e w2 ⟨rfl, hb2⟩
  have B3 := Lib.hid (up2 B2.out hb2)
  clear hb2 HLK B2
  go_wp2_with fail
  have HB4 := below1 w2 (.cells #[.pointer (some ⟨b, 0, none⟩), .int .i64 T.S.lo, .int .i64 T.S.hi, .int .i64 tab] 83)
  have B5 := Lib.hid (up2 B3.out HB4)
  clear HB4 B3
  generalize w2.alloc (.cells #[.pointer (some ⟨b, 0, none⟩), .int .i64 T.S.lo, .int .i64 T.S.hi, .int .i64 tab] 83) = W2 at *
  have hpt := pText (H.out.up B5.out) (x : Int) (y : Int)
  rw [HE.out.2.1, HE.out.2.2, ← HV.out.2.1] at hpt
  refine hpt.mono ?_
  rintro e w4 ⟨rfl, hb4⟩
  have B6 := Lib.hid (up2 B5.out hb4)
  clear hb4 hpt B5
  go_wp2_with fail
  refine (HFT w4 (HT.out.up B6.out)).out.mono ?_
  rintro e w5 ⟨rfl, hb5⟩
  have B7 := Lib.hid (up2 B6.out hb5)
  clear hb5 B6
  by_cases heq : wa = s
  · have HQ := Lib.hid heq
    subst heq
    have e0 : (wa.toList == wa.toList) = true := by simp
    go_wp2_with fail
    go_ret
    refine ⟨rfl, ?_⟩
    have e2 : T2 = T := by
      rw [HV.out.2.2.1]; unfold fillX
      rw [if_pos (by rw [← HV.out.1, ← HV.out.2.1])]
    rw [e2]
    exact H.out.stay B7.out (T.cs.length + 8)
  · have e0 := str_ne1 heq
    have e1' := str_ne1 (fun q => heq q.symm)
    have HQ := Lib.hid heq
    have hbr := bReplace (HT.out.up B7.out) (HR.out.up B7.out) (H.out.up B7.out) HH.out.1 (by have := HH.out.2.1; omega) HH.out.2.2.1 (x : Int) (y : Int) s (by have := HH.out.2.2.2.1; omega)
    rw [HE.out.1, if_pos rfl, Int.toNat_natCast, Int.toNat_natCast, HV.out.2.2.2.1] at hbr
    have HBR := Lib.hid hbr
    clear hbr heq
    go_wp2_with fail
    refine HBR.out.mono ?_
    rintro e w6 ⟨rfl, h5⟩
    have H5 := Lib.hid (PB.then (T1 := T) (B1 := B) B7.out h5)
    clear h5
    go_wp2_with fail
    go_ret
    refine ⟨rfl, ?_⟩
    have e2 : T2 = repT T x y (fillT widN most tab (subL T.cs x y)) := by
      rw [HV.out.2.2.1]; unfold fillX
      rw [if_neg (by rw [← HV.out.1, ← HV.out.2.1]; exact HQ.out)]
    rw [e2]
    exact H5.out
end
end Go.Proofs.YtphdkcdkhklicaaGreatDoor
