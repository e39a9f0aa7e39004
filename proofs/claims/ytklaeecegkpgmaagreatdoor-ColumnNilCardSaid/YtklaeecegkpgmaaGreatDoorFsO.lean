import Derived.Test.YtklaeecegkpgmaaGreatDoorJr
import Derived.Test.YtklaeecegkpgmaaGreatDoorJn
/- Package buffer: Insert into a new buffer; Boundary. -/
namespace Go.Proofs.YtklaeecegkpgmaaGreatDoor
open Go.RowKit
set_option linter.unusedVariables false
set_option linter.unusedSimpArgs false
section
variable {w w' : World}
set_option maxHeartbeats 1000000 in
theorem putE {N b : Nat} (hT : Tabs N w) (s : ByteArray) (hs : s.size ≤ 10000) (hv : (charsD s.data.toList).isSome = true) (h0 : (chrs s).length = 0) (at_ : Int) (bf : Bool) :
    Calls Tryz.prog 75 #[pAt b, .int .i64 at_, .string s, .bool bf] w fun r w' => r = .returned (.tuple #[]) ∧ Below w.heap.size w w' := by
  have hLn := runesLen s w (by omega) hT
  rw [rlenG_chars hv, h0] at hLn
  have HLn := Lib.hid hLn
  clear hLn hT h0 hv hs
  go_enter Tryz.func75, Tryz.ntmps75
  go_wp2_with fail
  refine HLn.out.mono ?_
  rintro e w1 ⟨rfl, hb1⟩
  go_wp2_with fail
  refine bodyPost_ret (results_none rfl _ _ _) rfl ?_
  exact ⟨rfl, hb1⟩
theorem gapE {t g : Nat} (h : Blk w t 122 (txtC g 0 0 0 0 (.slice none 0 0))) (hgt : g < t) : GapR w t g [] :=
  ⟨[], 0, 0, 0, h.cell (j := 0) rfl, h.cell (j := 1) rfl, h.cell (j := 2) rfl, Nat.le_refl _, by omega, by have := h.lt; omega, fun i z hz => by simp at hz, Nat.le_refl _, Nat.le_refl _, rfl, fun c hc => by cases hc⟩
/-- The buffer's cells behind the first insertion. -/
def aftS (t m p o l : Nat) (lock : Int) (n : Nat) (em : Bool) : BS := if n = 0 then { freshS t m p o l lock with empty := em } else insS t m p o l lock n (1 + n) em
/-- What put does to a new buffer, both ways. -/
theorem put_any {N b t g l mm m p o : Nat} {lock pr ev : Int} (hT : Tabs N w) (hR : Rules N w) (h : Fr w N b t g l mm m p o lock pr ev) (s : ByteArray) (hs : s.size ≤ 10000) (hv : (charsD s.data.toList).isSome = true) :
    Calls Tryz.prog 75 #[pAt b, .int .i64 1, .string s, .bool false] w fun r w' => r = .returned (.tuple #[]) ∧ Only (fun k => k = b ∨ k = l ∨ k = t ∨ k = p) w w' ∧
      BufB w' b { aftS t m p o l lock (chrs s).length (decide ((chrs s).length = 0)) with pt := 1 } ∧ (∃ g', g ≤ g' ∧ g' ≠ b ∧ g' ≠ l ∧ GapR w' t g' (chrs s)) ∧ LogF w' l := by
  by_cases h0 : (chrs s).length = 0
  · refine (putE hT s hs hv h0 1 false).mono ?_
    rintro r w' ⟨rfl, hb⟩
    have h' := h.up hb
    have e : chrs s = [] := List.eq_nil_of_length_eq_zero h0
    have hord := h.ord
    rw [e]
    exact ⟨rfl, Only.of_below hb, h'.blk, ⟨g, Nat.le_refl _, by omega, by omega, gapE h'.txt (by omega)⟩, .inl h'.log⟩
  · refine (put0_ok hT hR h s hs hv (by omega)).mono ?_
    rintro r w' ⟨rfl, ho, hk, ⟨g', hg', hgap⟩, B, v, _, _, hv, hl⟩
    have hord := h.ord
    have hbw := h.blk.lt
    refine ⟨rfl, ho, ?_, ⟨g', by omega, by omega, by omega, hgap⟩, ?_⟩
    · unfold aftS
      rw [if_neg h0, decide_eq_false h0]
      exact hk
    · obtain ⟨A, cap, rfl, _, _, _⟩ := hv.shape eltC
      exact .inr ⟨A, cap, hl⟩
theorem freshGet {N b t g l mm m p o : Nat} {lock pr ev : Int} (h : Fr w N b t g l mm m p o lock pr ev) : GetAt w p (fun _ _ => none) := getAt0 h.prs
theorem al_fs (w : World) (x y z : Value) (T : TypeId) : ((w.alloc (.cells #[x, y, z] T)).heap[w.heap.size]?) = some (.cells #[x, y, z] T) := (MapKept.heap_alloc w _).1
set_option maxRecDepth 100000 in
set_option maxHeartbeats 4000000 in
theorem insert_ok {N b t g l mm m p o : Nat} {lock pr ev : Int} (hT : Tabs N w) (hR : Rules N w) (h : Fr w N b t g l mm m p o lock pr ev) (s : ByteArray) (hs : s.size ≤ 10000) (hv : (charsD s.data.toList).isSome = true) :
    Calls Tryz.prog 85 #[pAt b, .string s, .bool false] w fun r w' => r = .returned (.int .i64 0) ∧ Only (fun k => k = b ∨ k = l ∨ k = t ∨ k = p) w w' ∧
      BufB w' b (aftS t m p o l lock (chrs s).length (decide ((chrs s).length = 0))) ∧ (∃ g', g ≤ g' ∧ g' ≠ b ∧ g' ≠ l ∧ GapR w' t g' (chrs s)) ∧ LogF w' l := by
  have hlen := chrs_len s
  have HV := Lib.hid hv
  have HT := Lib.hid hT
  have HR := Lib.hid hR
  have H := Lib.hid h
  have HN := Lib.hid (bnoneB h.blk)
  have c0 : w.cell? ⟨b, 0, none⟩ = some (.int .i64 1) := h.blk.cell (j := 0) rfl
  have hord := h.ord
  have hvl : vld s = true := by rw [vld_chars]; exact hv
  have hrl := rlenG_chars hv
  have HVL := Lib.hid (And.intro hvl hrl)
  clear hT hR h hv hvl hrl
  go_enter Tryz.func85, Tryz.ntmps85
  go_wp2_with fail
  refine HN.out.mono ?_
  rintro e w0 ⟨rfl, rfl⟩
  go_wp2_with fail
  refine (within_ok H.out.blk 1 1).mono ?_
  rintro e w1 ⟨k1, k2, rfl, hb1, hc1⟩
  change ChkAt w1 True (unlC k1 k2 0) at hc1
  have C1 := Lib.hid hc1
  have B1 := Lib.hid hb1
  clear hc1 hb1 HN
  go_wp2_with fail
  refine (gapOpen_ok (H.out.blk.up B1.out) (freshGet (H.out.up B1.out)) 1).mono ?_
  rintro e w2 ⟨k3, k4, rfl, hb2, hc2⟩
  change ChkAt w2 _ (unlC k3 k4 0) at hc2
  have C2 := Lib.hid hc2
  have B2 := Lib.hid (up2 B1.out hb2)
  have C12 := Lib.hid (C1.out.up hb2)
  clear hc2 hb2 C1 B1
  go_wp2_with fail
  refine (fits_ok (n := 0) (HT.out.up B2.out) (H.out.blk.up B2.out) s (by omega) 0 (by omega) (fun w3 hb3 => gsize0 _ ((H.out.up B2.out).up hb3).txt)).mono ?_
  rintro e w3 ⟨k5, k6, k7, rfl, hb3, hc3⟩
  have hfs : fitsE s 0 0 = 0 := by
    unfold fitsE
    rw [if_pos HVL.out.1, HVL.out.2, if_neg (by omega)]
  rw [hfs] at hc3 ⊢
  clear hfs
  have C3 := Lib.hid hc3
  have B3 := Lib.hid (up2 B2.out hb3)
  have C13 := Lib.hid (C12.out.up hb3)
  have C23 := Lib.hid (C2.out.up hb3)
  clear hc3 hb3 C2 B2 C12
  go_wp2_with fail
  have hb4 := below1 w3 (.cells #[(unlC k1 k2 0).val, (unlC k3 k4 0).val, (fitC k5 k6 k7 0).val] 72)
  have hR3 := RSl.arr (enc := encK) (zs := [unlC k1 k2 0, unlC k3 k4 0, fitC k5 k6 k7 0]) (MapKept.heap_alloc w3 (.cells #[(unlC k1 k2 0).val, (unlC k3 k4 0).val, (fitC k5 k6 k7 0).val] 72)).1 rfl
  have HF := first_any hR3 3 (by simp) (by
    intro c hc
    simp only [List.mem_cons, List.not_mem_nil, or_false] at hc
    rcases hc with rfl | rfl | rfl
    · exact C13.out.en
    · exact C23.out.en
    · exact C3.out.en) (by
    intro i c w4 hi hz hb
    rcases i with _ | _ | _ | i
    · cases hi; exact C13.out.run trivial w4 (up2 hb4 hb)
    · cases hi; exact C23.out.run ⟨by omega, by omega⟩ w4 (up2 hb4 hb)
    · cases hi; exact C3.out.run ⟨by omega, by omega⟩ w4 (up2 hb4 hb)
    · simp at hi)
  have B4 := Lib.hid (up2 B3.out hb4)
  have HF := Lib.hid HF
  clear hR3 hb4 C13 C23 C3 B3
  refine HF.out.mono ?_
  rintro e w5 ⟨rfl, hb5⟩
  have B5 := Lib.hid (up2 B4.out hb5)
  clear hb5 B4 HF
  simp only [firstE]
  go_wp2_with fail
  refine (put_any (HT.out.up B5.out) (HR.out.up B5.out) (H.out.up B5.out) s hs HV.out).mono ?_
  rintro e w6 ⟨rfl, ho6, hk6, hg6, hl6⟩
  have K6 := Lib.hid hk6
  have T6 := Lib.hid (((HT.out.up B5.out).only ho6 (fun k hk => by omega)))
  have G6 := Lib.hid hg6
  have L6 := Lib.hid hl6
  have O6 := Lib.hid ((Only.of_below B5.out).trans ho6)
  have z6 := ho6.size
  clear ho6 hk6 hg6 hl6 HT HR H
  have hLn := runesLen s w6 (by omega) T6.out
  rw [HVL.out.2] at hLn
  go_wp2_with fail
  refine hLn.mono ?_
  rintro e w7 ⟨rfl, hb7⟩
  have hk7 := K6.out.up hb7
  have q0 := hk7.cell (j := 0) rfl
  have f0 := hk7.fz 0
  have K7 := Lib.hid hk7
  have G7 := Lib.hid (show ∃ g', g ≤ g' ∧ g' ≠ b ∧ g' ≠ l ∧ GapR w7 t g' (chrs s) from by obtain ⟨g', h1, h2, h2', h3⟩ := G6.out; exact ⟨g', h1, h2, h2', h3.up hb7⟩)
  have L7 := Lib.hid (L6.out.up hb7)
  have O7 := Lib.hid (O6.out.trans (Only.of_below hb7))
  have s1 : IntKind.i64.wrap (1 + ((chrs s).length : Int)) = ((1 + (chrs s).length : Nat) : Int) := by rw [IntWalk.i64_in _ (by omega)]; omega
  have hbl : b ≠ l := by omega
  clear hk7 hb7 hLn K6 G6 L6 O6 T6
  go_wp2_with fail
  go_ret
  have hk8 := K7.out.set (j := 0) (by simp) (.int .i64 ((1 + (chrs s).length : Nat) : Int))
  refine ⟨rfl, O7.out.setCell (p := ⟨b, 0, none⟩) (.inl rfl) _, ?_, ?_, ?_⟩
  · have e : { ({ aftS t m p o l lock (chrs s).length (decide ((chrs s).length = 0)) with pt := 1 } : BS) with pt := 1 + (chrs s).length } = aftS t m p o l lock (chrs s).length (decide ((chrs s).length = 0)) := by
      unfold aftS
      split
      · rename_i h0; rw [h0]
      · rfl
    rw [← e]; exact hk8
  · obtain ⟨g', h1, h2, h2', h3⟩ := G7.out
    exact ⟨g', h1, h2, h2', h3.kept (Below.heap_setCell _ _ _ _ (by show t ≠ b; omega)) (Below.heap_setCell _ _ _ _ (by show g' ≠ b; omega)) (by simp)⟩
  · have hkk : (w7.setCell ⟨b, 0, none⟩ (.int .i64 ((1 + (chrs s).length : Nat) : Int))).heap[l]? = w7.heap[l]? := Below.heap_setCell _ _ _ _ (by show l ≠ b; omega)
    rcases L7.out with hl | ⟨A, cap, hl⟩
    · exact .inl (hl.kept hkk)
    · exact .inr ⟨A, cap, hl.kept hkk⟩
end
end Go.Proofs.YtklaeecegkpgmaaGreatDoor
