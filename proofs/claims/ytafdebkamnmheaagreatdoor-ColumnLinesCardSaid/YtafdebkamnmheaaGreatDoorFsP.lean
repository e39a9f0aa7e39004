import Derived.Test.YtafdebkamnmheaaGreatDoorFsO
/- Package buffer: Insert, Boundary, Size, Narrow. -/
namespace Go.Proofs.YtafdebkamnmheaaGreatDoor
open Go.RowKit
set_option linter.unusedVariables false
set_option linter.unusedSimpArgs false
section
variable {w w' : World} {b g : Nat} {S : BS} {cs : List Nat}
set_option maxHeartbeats 1000000 in
theorem Insert_ok {N b t g l mm m p o : Nat} {lock pr ev : Int} (hT : Tabs N w) (hR : Rules N w) (h : Fr w N b t g l mm m p o lock pr ev) (s : ByteArray) (hs : s.size ≤ 10000) (hv : (charsD s.data.toList).isSome = true) :
    Calls Tryz.prog 36 #[pAt b, .string s] w fun r w' => r = .returned (.int .i64 0) ∧ Only (fun k => k = b ∨ k = l ∨ k = t ∨ k = p) w w' ∧
      BufB w' b (aftS t m p o l lock (chrs s).length (decide ((chrs s).length = 0))) ∧ (∃ g', g ≤ g' ∧ g' ≠ b ∧ g' ≠ l ∧ GapR w' t g' (chrs s)) ∧ LogF w' l := by
  have HI := Lib.hid (insert_ok hT hR h s hs hv)
  clear hT hR h hs hv
  go_enter Tryz.func36, Tryz.ntmps36
  go_wp2_with fail
  refine HI.out.mono ?_
  rintro r w' ⟨rfl, h1, h2⟩
  have H2 := Lib.hid h2
  clear h2
  go_wp2_with fail
  go_ret
  exact ⟨rfl, h1, H2.out⟩
set_option maxHeartbeats 1000000 in
theorem bBoundary_ok (h : BufB w b S) (hlg : S.logs = true) (hL : LogF w S.l) (hbl : b ≠ S.l) : Calls Tryz.prog 37 #[pAt b] w fun r w' => r = .returned (.int .i64 0) ∧ Only (fun k => k = b ∨ k = S.l) w w' ∧ BufB w' b { S with empty := true } := by
  have c14 : w.cell? ⟨b, 14, none⟩ = some (.bool true) := by rw [← hlg]; exact h.cell (j := 14) rfl
  have c13 := h.cell (j := 13) rfl
  have HN := Lib.hid (bnoneB h)
  have HL := Lib.hid (ubound_ok hL)
  have H := Lib.hid h
  clear h hL
  go_enter Tryz.func37, Tryz.ntmps37
  go_wp2_with fail
  refine HN.out.mono ?_
  rintro r w1 ⟨rfl, rfl⟩
  go_wp2_with fail
  refine HL.out.mono ?_
  rintro r w1 ⟨rfl, ho⟩
  have hk := H.out.only ho hbl
  have q15 := hk.cell (j := 15) rfl
  have f15 := hk.fz 15
  have HK := Lib.hid hk
  clear hk
  go_wp2_with fail
  go_ret
  exact ⟨rfl, (ho.mono (T := fun k => k = b ∨ k = S.l) (fun k hk => .inr hk)).setCell (p := ⟨b, 15, none⟩) (.inl rfl) _, HK.out.set (j := 15) (by simp) (.bool true)⟩
set_option maxHeartbeats 1000000 in
theorem bSize_ok (h : BufT w b g S cs) : Calls Tryz.prog 23 #[pAt b] w fun r w' => r = .returned (.int .i64 cs.length) ∧ Below w.heap.size w w' := bsize h.r
/-! ### Narrow -/
def mayB (n : Nat) (x y : Int) : Bool := decide (1 ≤ x) && decide (x ≤ y) && decide (y ≤ (n : Int) + 1)
set_option maxHeartbeats 1000000 in
theorem may_ok (h : BufT w b g S cs) (x y : Int) : Calls Tryz.prog 112 #[pAt b, .int .i64 x, .int .i64 y] w fun r w2 => r = .returned (.bool (mayB cs.length x y)) ∧ Below w.heap.size w w2 := by
  have hn := h.gap.len
  have HS := Lib.hid (gsize h.gap)
  have c9 := h.blk.cell (j := 9) rfl
  have s1 : IntKind.i64.wrap ((cs.length : Int) + 1) = (cs.length : Int) + 1 := IntWalk.i64_in _ (by omega)
  clear h
  unfold mayB
  obtain ⟨n, hnn⟩ : ∃ n : Int, (cs.length : Int) + 1 = n := ⟨_, rfl⟩
  rw [hnn] at s1 ⊢
  cases d1 : decide (1 ≤ x) with
  | false =>
    go_enter Tryz.func112, Tryz.ntmps112
    go_wp2_with fail
    go_ret
    exact ⟨rfl, Below.refl _ _⟩
  | true =>
    cases d2 : decide (x ≤ y) with
    | false =>
      go_enter Tryz.func112, Tryz.ntmps112
      go_wp2_with fail
      go_ret
      exact ⟨rfl, Below.refl _ _⟩
    | true =>
      cases d3 : decide (y ≤ n) with
      | false =>
        go_enter Tryz.func112, Tryz.ntmps112
        go_wp2_with fail
        refine HS.out.mono ?_
        rintro r w1 ⟨rfl, hb1⟩
        go_wp2_with fail
        go_ret
        exact ⟨rfl, hb1⟩
      | true =>
        go_enter Tryz.func112, Tryz.ntmps112
        go_wp2_with fail
        refine HS.out.mono ?_
        rintro r w1 ⟨rfl, hb1⟩
        go_wp2_with fail
        go_ret
        exact ⟨rfl, hb1⟩
set_option maxHeartbeats 1000000 in
theorem valid1_ok {k0 k1 k2 : Nat} (h : BufT w b g S cs) (x y : Int) (h0 : w.cell? ⟨k0, 0, none⟩ = some (pAt b)) (h1 : w.cell? ⟨k1, 0, none⟩ = some (.int .i64 x)) (h2 : w.cell? ⟨k2, 0, none⟩ = some (.int .i64 y)) :
    Calls Tryz.prog 111 #[pAt k0, pAt k1, pAt k2] w fun r w2 => r = .returned (.bool (mayB cs.length x y)) ∧ Below w.heap.size w w2 := by
  have HR := Lib.hid (may_ok h x y)
  clear h
  go_enter Tryz.func111, Tryz.ntmps111
  go_wp2_with fail
  refine HR.out.mono ?_
  rintro r w1 ⟨rfl, hb1⟩
  go_wp2_with fail
  go_ret
  exact ⟨rfl, hb1⟩
set_option maxHeartbeats 1000000 in
theorem valid_ok (h : BufT w b g S cs) (x y : Int) : Calls Tryz.prog 64 #[pAt b, .int .i64 x, .int .i64 y] w fun r w' =>
    ∃ ke kf, r = .returned (unlC ke kf (if mayB cs.length x y then 0 else 3)).val ∧ Below w.heap.size w w' ∧ ChkAt w' True (unlC ke kf (if mayB cs.length x y then 0 else 3)) := by
  have HB := Lib.hid h
  clear h
  obtain ⟨E, hE⟩ : ∃ E : Int, (if mayB cs.length x y then (0 : Int) else 3) = E := ⟨_, rfl⟩
  rw [hE]
  have HE := Lib.hid hE
  clear hE
  go_enter Tryz.func64, Tryz.ntmps64
  go_wp2_with fail
  have hb3 := below3 w (.cells #[pAt b] 24) (.cells #[.int .i64 x] 3) (.cells #[.int .i64 y] 3)
  obtain ⟨a0, a1, a2⟩ := al3 w (pAt b) (.int .i64 x) (.int .i64 y) 24 3 3
  generalize ((w.alloc (.cells #[pAt b] 24)).alloc (.cells #[.int .i64 x] 3)).alloc (.cells #[.int .i64 y] 3) = W at *
  refine (unless_ok 3 111 #[] #[pAt w.heap.size, pAt (w.heap.size + 1), pAt (w.heap.size + 2)] W).mono ?_
  rintro r w1 ⟨rfl, hb1, he, hf⟩
  go_wp2_with fail
  go_ret
  refine ⟨_, _, rfl, up2 hb3 hb1, HE.out ▸ ChkAt.unless (p := mayB cs.length x y) (enters_mk Tryz.func111 (by kernel_rfl) rfl) he hf fun _ w2 hb2 => ?_⟩
  exact valid1_ok (((HB.out.up hb3).up hb1).up hb2) x y (cell_up a0 (up2 hb1 hb2)) (cell_up a1 (up2 hb1 hb2)) (cell_up a2 (up2 hb1 hb2))
set_option maxHeartbeats 1000000 in
theorem stand_ok (h : BufB w b S) (x : Nat) : Calls Tryz.prog 65 #[pAt b, .int .i64 x] w fun r w' => r = .returned (.tuple #[]) ∧ Only (fun k => k = b) w w' ∧ BufB w' b { S with pt := min (max x S.lo) S.hi } := by
  have c0 := h.cell (j := 0) rfl
  have c1 : w.cell? ⟨b, 1, none⟩ = some (.int .i64 (S.lo : Int)) := h.cell (j := 1) rfl
  have c2 : w.cell? ⟨b, 2, none⟩ = some (.int .i64 (S.hi : Int)) := h.cell (j := 2) rfl
  have f0 := h.fz 0
  have e1 : max (x : Int) (S.lo : Int) = ((max x S.lo : Nat) : Int) := by omega
  have e2 : min ((max x S.lo : Nat) : Int) (S.hi : Int) = ((min (max x S.lo) S.hi : Nat) : Int) := by omega
  have H := Lib.hid h
  clear h
  go_enter Tryz.func65, Tryz.ntmps65
  go_region
  go_wp2_with fail
  go_end0
  exact ⟨rfl, (Only.setCell (S := fun k => k = b) (p := ⟨b, 0, none⟩) (Only.refl _ w) rfl _).drew, H.out.set (j := 0) (by simp) (.int .i64 ((min (max x S.lo) S.hi : Nat) : Int))⟩
set_option maxRecDepth 100000 in
set_option maxHeartbeats 2000000 in
theorem Narrow_ok (h : BufT w b g S cs) (x y : Nat) (h1 : 1 ≤ x) (h2 : x ≤ y) (h3 : y ≤ cs.length + 1) : Calls Tryz.prog 24 #[pAt b, .int .i64 x, .int .i64 y] w fun r w' => r = .returned (.int .i64 0) ∧
    Only (fun k => k = b) w w' ∧ BufT w' b g { S with lo := x, hi := y, pt := min (max S.pt x) y } cs := by
  have hv : mayB cs.length x y = true := by unfold mayB; simp; omega
  have HM := Lib.hid (ChkAt.made h.blk)
  have HV := Lib.hid (valid_ok h x y)
  rw [hv] at HV
  have H := Lib.hid h
  clear h hv
  go_enter Tryz.func24, Tryz.ntmps24
  go_wp2_with fail
  refine HV.out.mono ?_
  rintro r w1 ⟨k1, k2, rfl, hb1, hc⟩
  change ChkAt w1 True (unlC k1 k2 0) at hc
  have C1 := Lib.hid hc
  have B1 := Lib.hid hb1
  have M1 := Lib.hid (HM.out.up hb1)
  clear hc hb1 HV HM
  go_wp2_with fail
  have hb4 := below1 w1 (.cells #[(madeC b).val, (unlC k1 k2 0).val] 74)
  have hR3 := RSl.arr (enc := encK) (zs := [madeC b, unlC k1 k2 0]) (MapKept.heap_alloc w1 (.cells #[(madeC b).val, (unlC k1 k2 0).val] 74)).1 rfl
  have HF := first_any hR3 2 (by simp) (by
    intro c hc
    simp only [List.mem_cons, List.not_mem_nil, or_false] at hc
    rcases hc with rfl | rfl
    · exact M1.out.en
    · exact C1.out.en) (by
    intro i c w4 hi hz hb
    rcases i with _ | _ | i
    · cases hi; exact M1.out.run trivial w4 (up2 hb4 hb)
    · cases hi; exact C1.out.run trivial w4 (up2 hb4 hb)
    · simp at hi)
  have HF := Lib.hid HF
  have B2 := Lib.hid (up2 B1.out hb4)
  clear hR3 hb4 M1 C1 B1
  refine HF.out.mono ?_
  rintro e w5 ⟨rfl, hb5⟩
  have hh := H.out.up (up2 B2.out hb5)
  have q1 := hh.blk.cell (j := 1) rfl
  have q2 := hh.blk.cell (j := 2) rfl
  have q0 := hh.blk.cell (j := 0) rfl
  have f1 := hh.blk.fz 1
  have f2 := hh.blk.fz 2
  have H5 := Lib.hid hh
  have B5 := Lib.hid (up2 B2.out hb5)
  clear hh hb5 B2 HF H
  simp only [firstE]
  go_wp2_with fail
  have hk6 := (H5.out.blk.set (j := 1) (by simp) (.int .i64 (x : Int))).set (j := 2) (by simp) (.int .i64 (y : Int))
  have ho6 : Only (fun k => k = b) w5 ((w5.setCell ⟨b, 1, none⟩ (.int .i64 (x : Int))).setCell ⟨b, 2, none⟩ (.int .i64 (y : Int))) :=
    Only.setCell (S := fun k => k = b) (p := ⟨b, 2, none⟩) (Only.setCell (S := fun k => k = b) (p := ⟨b, 1, none⟩) (Only.refl _ w5) rfl _) rfl _
  have hk6' : BufB ((w5.setCell ⟨b, 1, none⟩ (.int .i64 (x : Int))).setCell ⟨b, 2, none⟩ (.int .i64 (y : Int))) b { S with lo := x, hi := y } := hk6
  clear q1 q2 q0 f1 f2 hk6
  have g6 := H5.out.gap.kept (ho6.block S.t (by obtain ⟨_, _, _, _, q⟩ := H5.out.gap; exact q.lt) (Ne.symm H5.out.hbt)) (ho6.block g (by obtain ⟨_, _, _, _, q⟩ := H5.out.gap; exact q.hg) (Ne.symm H5.out.hbg)) ho6.size
  have O6 := Lib.hid ((Only.of_below B5.out).trans ho6)
  have G6 := Lib.hid g6
  clear g6 ho6
  generalize (w5.setCell ⟨b, 1, none⟩ (.int .i64 (x : Int))).setCell ⟨b, 2, none⟩ (.int .i64 (y : Int)) = W at *
  refine (stand_ok hk6' S.pt).mono ?_
  rintro r w7 ⟨rfl, ho7, hk7⟩
  have K7 := Lib.hid hk7
  clear hk7
  go_wp2_with fail
  go_ret
  refine ⟨rfl, O6.out.trans ho7, ⟨K7.out, G6.out.kept (ho7.block S.t (by obtain ⟨_, _, _, _, q⟩ := G6.out; exact q.lt) (Ne.symm H5.out.hbt)) (ho7.block g (by obtain ⟨_, _, _, _, q⟩ := G6.out; exact q.hg) (Ne.symm H5.out.hbg)) ho7.size, H5.out.hbt, H5.out.hbg, h1, ?_, ?_, h3⟩⟩
  · show x ≤ min (max S.pt x) y; omega
  · show min (max S.pt x) y ≤ y; omega
end
end Go.Proofs.YtafdebkamnmheaaGreatDoor
