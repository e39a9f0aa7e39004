import Derived.Test.YtklaeecegkpgmaaGreatDoorJm
import Derived.Test.YtklaeecegkpgmaaGreatDoorGpD
import Derived.Test.YtklaeecegkpgmaaGreatDoorJk
/- gap.New of the empty string; buffer.New. -/
namespace Go.Proofs.YtklaeecegkpgmaaGreatDoor
open Go.RowKit
set_option linter.unusedVariables false
set_option linter.unusedSimpArgs false
section
variable {w w' : World} {t g b : Nat}
set_option maxHeartbeats 1000000 in
theorem ggrowE (f : Value) (h : Blk w t 122 (txtC g 0 0 0 0 f)) : Calls Tryz.prog 175 #[pAt t, .int .i64 0] w fun e w' => e = .returned (.tuple #[]) ∧ Below w.heap.size w w' := by
  have c1 := h.cell (j := 1) rfl
  have c2 := h.cell (j := 2) rfl
  clear h
  go_enter Tryz.func175, Tryz.ntmps175
  go_wp2_with fail
  go_region
  go_wp2_with fail
  refine bodyPost_ret (results_none rfl _ _ _) rfl ?_
  exact ⟨rfl, (Below.refl _ w).drew⟩
set_option maxHeartbeats 1000000 in
theorem sinsertE (w : World) : Calls Tryz.prog 176 #[.slice none 0 0, .int .i64 0, .slice none 0 0] w fun e w' => e = .returned (.slice none 0 0) ∧ w = w' := by
  go_enter Tryz.func176, Tryz.ntmps176
  go_wp2_with fail
  go_ret
  exact ⟨rfl, rfl⟩
theorem emptyS : (charsD (ByteArray.empty).data.toList).isSome = true := rfl
theorem vldE : vld ⟨#[]⟩ = true := by rw [vld_chars]; rfl
theorem rlenE : rlenG ⟨#[]⟩ = 0 := by
  rw [rlenG_chars (s := ⟨#[]⟩) rfl]; rfl
set_option maxRecDepth 100000 in
set_option maxHeartbeats 2000000 in
theorem ginsertE {N : Nat} (hT : Tabs N w) (h : Blk w t 122 (txtC g 0 0 0 0 (.slice none 0 0))) (hNt : N ≤ t) :
    Calls Tryz.prog 124 #[pAt t, .int .i64 1, .string ⟨#[]⟩] w fun e w' => e = .returned (.int .i64 0) ∧ Only (fun k => k = t) w w' ∧ Blk w' t 122 (txtC g 0 0 0 0 (.slice none 0 0)) := by
  have H := Lib.hid h
  have HT := Lib.hid hT
  have HN := Lib.hid (gnone0 h rfl)
  have ht := h.lt
  clear h hT
  go_enter Tryz.func124, Tryz.ntmps124
  go_wp2_with fail
  refine HN.out.mono ?_
  rintro e w' ⟨rfl, rfl⟩
  go_wp2_with fail
  refine (gsize0 _ H.out).mono ?_
  rintro e w1 ⟨rfl, hb1⟩
  have H1 := Lib.hid (H.out.up hb1)
  have HT1 := Lib.hid (HT.out.up hb1)
  have hV := valid_any ⟨#[]⟩ w1 (by decide) HT1.out
  rw [vldE] at hV
  go_wp2_with fail
  refine hV.mono ?_
  rintro e w2 ⟨rfl, hb2⟩
  have H2 := Lib.hid (H1.out.up hb2)
  have HT2 := Lib.hid (HT1.out.up hb2)
  clear hV
  go_wp2_with fail
  have hLn := runesLen ⟨#[]⟩ w2 (by decide) HT2.out
  rw [rlenE] at hLn
  refine hLn.mono ?_
  rintro e w3 ⟨rfl, hb3⟩
  have H3 := Lib.hid (H2.out.up hb3)
  have HB3 := Lib.hid (up2 hb1 (up2 hb2 hb3))
  clear hLn hb1 hb2 hb3 H1 H2 HT1 HT2
  go_wp2_with fail
  refine (gsize0 _ H3.out).mono ?_
  rintro e w4 ⟨rfl, hb4⟩
  have H4 := Lib.hid (H3.out.up hb4)
  have HB4 := Lib.hid (up2 HB3.out hb4)
  clear hb4 HB3 H3
  go_wp2_with fail
  refine (gmove0 _ H4.out).mono ?_
  rintro e w5 ⟨rfl, ho5, hk5⟩
  have H5 := Lib.hid hk5
  have HO5 := Lib.hid ho5
  clear hk5 ho5 H4
  go_wp2_with fail
  refine (ggrowE _ H5.out).mono ?_
  rintro e w6 ⟨rfl, hb6⟩
  have hk6 := H5.out.up hb6
  have H6 := Lib.hid hk6
  have HO6 := Lib.hid (((Only.of_below HB4.out : Only (fun k => k = t) w w4).trans HO5.out).trans (Only.of_below hb6))
  have f3 := hk6.cell (j := 3) rfl
  clear hk6 hb6 H5 HO5 HB4
  go_wp2_with fail
  refine (bsearch_nil 1).mono ?_
  rintro e w7 ⟨rfl, rfl⟩
  go_wp2_with fail
  go_loopw [10] (fun va wr => va = .int .i64 0 ∧ w6 = wr) (fun _ _ => 0)
  case atStart => exact ⟨rfl, rfl⟩
  case round =>
    obtain ⟨rfl, rfl⟩ := hrel
    go_wp2_with fail
    clear f3
    have hit := w6.iter_heap ⟨#[]⟩ 0
    have HBi := Lib.hid (show Below w6.heap.size w6 (w6.iter ⟨#[]⟩ 0) from below1 w6 _)
    generalize w6.iter ⟨#[]⟩ 0 = W at *
    go_loopw [11, 13] (fun va vb wr => va = .slice none 0 0 ∧ W = wr) (fun _ _ _ => 0)
    case atStart => exact ⟨rfl, rfl⟩
    case round =>
      obtain ⟨rfl, rfl⟩ := hrel
      have hnx := fun ty => Lib.run_next_end_at (P := Tryz.prog) W w6.heap.size ⟨#[]⟩ 0 ty hit (by decide)
      have hkW := H6.out.up HBi.out
      have q3 := hkW.cell (j := 3) rfl
      have qf := hkW.fz 3
      have HW := Lib.hid hkW
      clear hkW
      go_wp2_with fail
      refine (sinsertE W).mono ?_
      rintro e w8 ⟨rfl, rfl⟩
      go_wp2_with fail
      go_ret
      refine ⟨rfl, (HO6.out.trans (Only.of_below HBi.out)).setCell (p := ⟨t, 3, none⟩) rfl _, HW.out.set (j := 3) (by simp) (.slice none 0 0)⟩
set_option maxRecDepth 100000 in
set_option maxHeartbeats 2000000 in
theorem gapNew0 {N : Nat} (hT : Tabs N w) (hN : N ≤ w.heap.size) : Calls Tryz.prog 80 #[.string ⟨#[]⟩] w fun e w' => ∃ g t, e = .returned (.tuple #[pAt t, .int .i64 0]) ∧ Below w.heap.size w w' ∧ w.heap.size ≤ g ∧ g < t ∧ Blk w' t 122 (txtC g 0 0 0 0 (.slice none 0 0)) := by
  have hV := valid_any ⟨#[]⟩ w (by decide) hT
  rw [vldE] at hV
  have HV := Lib.hid hV
  have HT := Lib.hid hT
  clear hT hV
  go_enter Tryz.func80, Tryz.ntmps80
  go_wp2_with fail
  refine HV.out.mono ?_
  rintro e w1 ⟨rfl, hb1⟩
  have hw1 := hb1.size
  have hsz : (w1.alloc (.cells #[] 21)).heap.size = w1.heap.size + 1 := by simp
  have hk : Blk ((w1.alloc (.cells #[] 21)).alloc (.cells #[.slice (some ⟨w1.heap.size, 0, none⟩) 0 0, .int .i64 0, .int .i64 0, .slice none 0 0] 122)) (w1.heap.size + 1) 122 (txtC w1.heap.size 0 0 0 0 (.slice none 0 0)) := by
    have := Blk.made (w1.alloc (.cells #[] 21)) 122 (txtC w1.heap.size 0 0 0 0 (.slice none 0 0))
    rwa [hsz] at this
  have hb2 : Below w.heap.size w ((w1.alloc (.cells #[] 21)).alloc (.cells #[.slice (some ⟨w1.heap.size, 0, none⟩) 0 0, .int .i64 0, .int .i64 0, .slice none 0 0] 122)) := up2 hb1 (below2 w1 _ _)
  have HK := Lib.hid hk
  have HB := Lib.hid hb2
  clear hk hb1 hb2 HV
  go_wp2_with fail
  refine (ginsertE (HT.out.up HB.out) HK.out (by omega)).mono ?_
  rintro e w3 ⟨rfl, ho3, hk3⟩
  go_wp2_with fail
  go_ret2
  exact ⟨_, _, rfl, (HB.out).trans (ho3.below HB.out.size (fun k hk => by omega)), hw1, Nat.lt_succ_self _, hk3⟩
end
end Go.Proofs.YtklaeecegkpgmaaGreatDoor
/- buffer.New. -/
namespace Go.Proofs.YtklaeecegkpgmaaGreatDoor
open Go.RowKit
set_option linter.unusedVariables false
set_option linter.unusedSimpArgs false
abbrev freshS (t m p o l : Nat) (lock : Int) : BS := ⟨1, 1, 1, 0, false, false, false, 0, 0, t, m, p, o, l, true, true, lock, .slice none 0 0, 0⟩
/-- A new buffer at block b. -/
structure Fr (w : World) (N b t g l mm m p o : Nat) (lock pr ev : Int) : Prop where
  blk : BufB w b (freshS t m p o l lock)
  txt : Blk w t 122 (txtC g 0 0 0 0 (.slice none 0 0))
  log : Blk w l 175 (lgC (.slice none 0 0) (.slice none 0 0) 0 0)
  mks : Mk0 w m mm
  prs : Blk w p 181 prC
  ovs : Blk w o 184 (ovC pr ev)
  ord : N ≤ g ∧ g < t ∧ t < l ∧ l < mm ∧ mm < m ∧ m < p ∧ p < o ∧ o < b
section
variable {w w' : World}
theorem Fr.up {N b t g l mm m p o : Nat} {lock pr ev : Int} (h : Fr w N b t g l mm m p o lock pr ev) (hb : Below w.heap.size w w') : Fr w' N b t g l mm m p o lock pr ev :=
  ⟨h.blk.up hb, h.txt.up hb, h.log.up hb, h.mks.up hb, h.prs.up hb, h.ovs.up hb, h.ord⟩
set_option maxRecDepth 100000 in
set_option maxHeartbeats 2000000 in
theorem bufNew {N : Nat} (hT : Tabs N w) (hN : N ≤ w.heap.size) (pr ev lock : Int) : Calls Tryz.prog 40 #[.int .i64 pr, .int .i64 ev, .int .i64 lock] w fun e w' =>
    ∃ b t g l mm m p o, e = .returned (pAt b) ∧ Below w.heap.size w w' ∧ Fr w' w.heap.size b t g l mm m p o lock pr ev := by
  have HT := Lib.hid hT
  clear hT
  go_enter Tryz.func40, Tryz.ntmps40
  go_wp2_with fail
  refine (gapNew0 HT.out hN).mono ?_
  rintro e w1 ⟨g, t, rfl, hb1, hg1, hg2, ht1⟩
  have htl := ht1.lt
  have T1 := Lib.hid ht1
  have B1 := Lib.hid hb1
  clear hb1 ht1
  go_wp2_with fail
  refine (undo_new w1).mono ?_
  rintro e w2 ⟨rfl, hb2, hs2, hl2⟩
  replace hs2 := Nat.le_of_eq hs2.symm
  have T2 := Lib.hid (T1.out.up hb2)
  have B2 := Lib.hid (up2 B1.out hb2)
  have L2 := Lib.hid hl2
  clear hb2 hl2 T1 B1
  generalize w1.heap.size = l at *
  go_wp2_with fail
  refine (marks_new w2).mono ?_
  rintro e w3 ⟨rfl, hb3, hs3, hm3, hmm3⟩
  replace hs3 := Nat.le_of_eq hs3.symm
  have T3 := Lib.hid (T2.out.up hb3)
  have B3 := Lib.hid (up2 B2.out hb3)
  have L3 := Lib.hid (L2.out.up hb3)
  have M3 := Lib.hid (Mk0.made hm3 hmm3)
  clear hb3 hm3 hmm3 T2 B2 L2
  generalize w2.heap.size = mm at *
  go_wp2_with fail
  refine (props_new w3).mono ?_
  rintro e w4 ⟨rfl, hb4, hs4, hp4⟩
  replace hs4 := Nat.le_of_eq hs4.symm
  have T4 := Lib.hid (T3.out.up hb4)
  have B4 := Lib.hid (up2 B3.out hb4)
  have L4 := Lib.hid (L3.out.up hb4)
  have M4 := Lib.hid (M3.out.up hb4)
  have P4 := Lib.hid hp4
  clear hb4 hp4 T3 B3 L3 M3
  generalize w3.heap.size = p at *
  go_wp2_with fail
  refine (overs_new w4 pr ev).mono ?_
  rintro e w5 ⟨rfl, hb5, hs5, ho5⟩
  replace hs5 := Nat.le_of_eq hs5.symm
  have T5 := Lib.hid (T4.out.up hb5)
  have B5 := Lib.hid (up2 B4.out hb5)
  have L5 := Lib.hid (L4.out.up hb5)
  have M5 := Lib.hid (M4.out.up hb5)
  have P5 := Lib.hid (P4.out.up hb5)
  have O5 := Lib.hid ho5
  clear hb5 ho5 T4 B4 L4 M4 P4
  generalize w4.heap.size = o at *
  go_wp2_with fail
  go_ret
  have hb6 := below1 w5 (.cells (bufC (freshS t (mm + 1) p o l lock)) 92)
  have hk6 := Blk.made w5 92 (bufC (freshS t (mm + 1) p o l lock))
  exact ⟨w5.heap.size, t, g, l, mm, mm + 1, p, o, rfl, up2 B5.out hb6, hk6, T5.out.up hb6, L5.out.up hb6, M5.out.up hb6, P5.out.up hb6, O5.out.up hb6, by omega⟩
end
end Go.Proofs.YtklaeecegkpgmaaGreatDoor
