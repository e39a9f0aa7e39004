/- Registers: the reference's plain at rows. -/
import Derived.Test.YtmnmloebomlllaaDoorKgE
namespace Go.Proofs.YtmnmloebomlllaaDoor
open Go.RowKit
set_option linter.unusedVariables false
set_option linter.unusedSimpArgs false
section
variable {w w' : World} {N : Nat}
theorem plC_rows1 {n id : Int} {t : ByteArray} {rows : List ByteArray} (hv : rows.any (fun s => !vld s) = false) : plainC ⟨4, n, id, t, rows⟩ = ⟨4, 0, 0, ⟨#[]⟩, rows⟩ := by unfold plainC; rw [if_pos (plE_rows1 hv)]; rfl
theorem plC_rows0 {n id : Int} {t : ByteArray} {rows : List ByteArray} (hv : rows.any (fun s => !vld s) = true) : plainC ⟨4, n, id, t, rows⟩ = zeroC := by unfold plainC; rw [plE_rows0 hv]; rfl
set_option maxRecDepth 100000 in
set_option maxHeartbeats 1000000 in
theorem rplain_rows (r : Reg) (w : World) (hk : r.kind = 4) (h : RSl encS w r.A r.rows) (hl : r.rows.length ≤ 1000000) (hs : ∀ s ∈ r.rows, s.size ≤ 1000000000) :
    Calls Tryd.prog 53 #[regV r] w (PlPost w (plainC r.con) (plainE r.con)) := by
  obtain ⟨k, n, id, t, A, c, rows⟩ := r
  obtain rfl : k = 4 := hk
  have HG := Lib.hid (fun (hv : rows.any (fun s => !vld s) = false) => (⟨plE_rows1 hv, plC_rows1 hv⟩ : plainE (Reg.con ⟨4, n, id, t, A, c, rows⟩) = 0 ∧ plainC (Reg.con ⟨4, n, id, t, A, c, rows⟩) = ⟨4, 0, 0, ⟨#[]⟩, rows⟩))
  have HX := Lib.hid (fun (hv : rows.any (fun s => !vld s) = true) => (⟨plE_rows0 hv, plC_rows0 hv⟩ : plainE (Reg.con ⟨4, n, id, t, A, c, rows⟩) = 5 ∧ plainC (Reg.con ⟨4, n, id, t, A, c, rows⟩) = zeroC))
  generalize plainE (Reg.con ⟨4, n, id, t, A, c, rows⟩) = er at *
  generalize plainC (Reg.con ⟨4, n, id, t, A, c, rows⟩) = co at *
  replace h : RSl encS w A rows := h
  replace hl : rows.length ≤ 1000000 := hl
  have HV := Lib.hid (fun (s : ByteArray) (hm : s ∈ rows) (w1 : World) => rvalid_any s w1 (hs s hm))
  have HH := Lib.hid h
  clear hs h
  go_enter Tryd.func53, Tryd.ntmps53
  go_wp2_with fail
  go_loopw [4] (fun vi wr => ∃ k : Nat, k ≤ rows.length ∧ vi = .int .i64 k ∧ (∀ j, j < k → ∀ x, rows[j]? = some x → vld x = true) ∧ Below (w.heap.size + 2) ((w.alloc (.cells #[.int .i64 4, .int .i64 n, .int .i64 id, .string t, .slice A rows.length c] 56)).alloc (.cells #[.int .i64 0, .int .i64 0, .int .i64 0, .string ⟨#[]⟩, .slice none 0 0] 56)) wr) (fun vi _ => rows.length - (intOf vi).toNat)
  case atStart => exact ⟨0, by omega, rfl, fun j hj => by omega, Below.refl _ _⟩
  case round =>
    obtain ⟨k, hk, rfl, hno, hbel⟩ := hrel
    have HNO := Lib.hid hno
    have hz := hbel.size
    simp at hz
    have hc : ∀ b o, b < w.heap.size + 1 + 1 → wr.cell? ⟨b, o, none⟩ = _ := fun b o h => hbel.cell (p := ⟨b, o, none⟩) h
    have hf : ∀ b o, b < w.heap.size + 1 + 1 → wr.frozen? ⟨b, o, none⟩ = _ := fun b o h => hbel.frozen (p := ⟨b, o, none⟩) h
    have HB := Lib.hid hbel
    have HB0 := Lib.hid (((up2 (below1 _ _) (below1 _ _)).trans (hbel.mono (by omega)) : Below w.heap.size w wr))
    clear hno hbel
    by_cases hlt : k < rows.length
    · obtain ⟨z, hx⟩ : ∃ x, rows[k]? = some x := ⟨_, List.getElem?_eq_getElem hlt⟩
      obtain ⟨g, o, hAe, hg, hcg⟩ := (HH.out.up HB0.out).at_ eltS hx
      have k0 := hcg 0 _ rfl
      simp only [Nat.mul_one, Nat.add_zero] at k0
      have M := HV.out z (List.mem_of_getElem? hx) wr
      have HXX := Lib.hid hx
      have hlt' : (k : Int) < rows.length := by omega
      subst hAe
      clear hx hcg
      cases hf0 : vld z with
      | false =>
        rw [hf0] at M
        have MM := Lib.hid M
        have HF := Lib.hid hf0
        clear M hf0
        go_wp2_with fail
        refine MM.out.mono ?_
        rintro e w' ⟨rfl, hb⟩
        obtain ⟨hc2, hf2⟩ := bcell hb
        have hz1 : w.heap.size + 1 < wr.heap.size := by omega
        have HB2 := Lib.hid (HB0.out.trans (hb.mono HB0.out.size))
        clear hb
        go_wp2_with fail
        have hX := HX.out (List.any_eq_true.2 ⟨z, List.mem_of_getElem? HXX.out, by rw [HF.out]; rfl⟩)
        rw [hX.1, hX.2]
        refine bodyPost_ret (v := .tuple #[.agg #[.int .i64 0, .int .i64 0, .int .i64 0, .string ⟨#[]⟩, .slice none 0 0], .int .i64 5]) (by simp [results, Tryd.f53, go_sem, hc2, hf2, hz1, hc, hf]) rfl (pl_none _ _ _ _ rfl ?_)
        repeat (refine set_below ?_ _ _ _ (by omega))
        exact HB2.out
      | true =>
        rw [hf0] at M
        have MM := Lib.hid M
        have HF := Lib.hid hf0
        clear M hf0
        go_wp2_with fail
        refine MM.out.mono ?_
        rintro e w' ⟨rfl, hb⟩
        have HB2 := Lib.hid (HB.out.trans (hb.mono (by omega)))
        clear hb hc hf
        go_wp2_with fail
        go_roundw
        case rel =>
          refine ⟨k + 1, by omega, by go_num, fun j hj x hxj => ?_, HB2.out⟩
          rcases Nat.lt_or_ge j k with h1 | h1
          · exact HNO.out j h1 x hxj
          · obtain rfl : j = k := by omega
            rw [HXX.out] at hxj; cases hxj; exact HF.out
        case measure => simp [intOf]; omega
    · have hkn : k = rows.length := by omega
      subst hkn
      have hG := HG.out (List.any_eq_false.2 fun x hx => by
        obtain ⟨j, hj, he⟩ := List.getElem_of_mem hx
        have := HNO.out j hj x (by rw [List.getElem?_eq_getElem hj, he])
        rw [this]; decide)
      obtain ⟨rfl, rfl⟩ := hG
      clear hlt hk
      have c0 := (hc w.heap.size 0 (by omega))
      have c4 := (hc w.heap.size 4 (by omega))
      simp at c0 c4
      have C0 : ∀ x : UpW wr.heap.size wr, x.w.cell? ⟨w.heap.size, 0, none⟩ = some (.int .i64 4) := fun x => (x.up.cell (p := ⟨w.heap.size, 0, none⟩) (show w.heap.size < wr.heap.size by omega)).trans c0
      have C4 : ∀ x : UpW wr.heap.size wr, x.w.cell? ⟨w.heap.size, 4, none⟩ = some (.slice A rows.length c) := fun x => (x.up.cell (p := ⟨w.heap.size, 4, none⟩) (show w.heap.size < wr.heap.size by omega)).trans c4
      have h0 := ROwn.empty (enc := encS) (E := 9) (k := 1) wr.drew.heap.size wr.drew (Nat.le_refl _)
      obtain ⟨v', w', happ, hown', hg, _⟩ := append_run eltS h0 (by simp) (HH.out.up (up2 HB0.out.drew (below1 _ _))) c (by simp; omega) (by omega)
      obtain ⟨A', c', rfl, hlc, hcm, hr⟩ := hown'.shape eltS
      rw [List.nil_append] at hlc hr hown' happ
      have hb2 : Below wr.heap.size wr w' := (Below.refl _ wr).drew.trans ((below1 wr.drew _).grown hg (by simp) (fun k hk => h0.base hk))
      have HP := Lib.hid happ
      have HO := Lib.hid hown'
      have HR := Lib.hid hr
      have HB2 := Lib.hid hb2
      have HB3 := Lib.hid (HB0.out.trans (hb2.mono HB0.out.size))
      obtain ⟨hc2, hf2⟩ := bcell hb2
      have hz1 : w.heap.size + 1 < wr.heap.size := by omega
      clear happ hown' hr hb2 hg h0
      go_wp2_with fail
      clear c0 c4
      refine wp_region_mix wr.heap.size 7 [([0, 1, 3, 4], 2), ([], 5)] [6] (by kernel_rfl) (fun c d v a w h => by cases d <;> exact h) (by kernel_rfl) ?_
      simp only [wpMix, pk_nil, pk_cons, pushAt_zero, pushAt_succ, List.drop_succ_cons, List.drop_zero]
      repeat (go_big_quiet_step (fail))
      refine wpQuiet_nil ?_
      clear C0 C4
      go_wp2_with fail
      refine thenQ_normal ⟨⟨⟨_, (Below.refl _ wr).drew.alloc (by simp) _⟩, rfl⟩, ?_⟩
      refine wpQuiet_nil ?_
      go_wp2_with (at_builtin; refine wpList_app_run rfl _ _ _ rfl rfl rfl HP.out ?_)
      refine thenQ_normal ⟨⟨⟨_, HB2.out⟩, rfl⟩, ?_⟩
      repeat (go_big_quiet_step (fail))
      refine wpQuiet_nil ?_
      go_wp2_with fail
      refine bodyPost_ret (v := .tuple #[.agg #[.int .i64 4, .int .i64 0, .int .i64 0, .string ⟨#[]⟩, .slice A' rows.length c'], .int .i64 0]) (by simp [results, Tryd.f53, go_sem, hc, hf, hc2, hf2, hz1]) rfl ⟨⟨4, 0, 0, ⟨#[]⟩, A', c', rows⟩, rfl, rfl, ⟨?_, hlc, hcm⟩, ?_, ?_⟩
      · have hne : ∀ n, n < wr.heap.size → 0 < rows.length → ∀ g o, A' = some ⟨g, o, none⟩ → g ≠ n := fun n hn hp g o e => by have h1 := HO.out.base (g := g) (by rw [e]; rfl); simp at h1; omega
        exact ((((HR.out.set (w.heap.size + 1) 0 _ (hne _ (by omega))).set (w.heap.size + 1) 1 _ (hne _ (by omega))).set (w.heap.size + 1) 2 _ (hne _ (by omega))).set (w.heap.size + 1) 3 _ (hne _ (by omega))).set (w.heap.size + 1) 4 _ (hne _ (by omega))
      · intro hp g o e
        replace e : A' = some ⟨g, o, .none⟩ := e
        have h1 := HO.out.base (g := g) (by rw [e]; rfl)
        simp at h1
        show w.heap.size ≤ g
        omega
      · repeat (refine set_below ?_ _ _ _ (by omega))
        exact HB3.out
end
end Go.Proofs.YtmnmloebomlllaaDoor
