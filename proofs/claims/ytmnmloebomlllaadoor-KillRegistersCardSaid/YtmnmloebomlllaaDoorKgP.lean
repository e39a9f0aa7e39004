/- Registers: the reference's Drop, Add; Set whole. -/
import Derived.Test.YtmnmloebomlllaaDoorKgO
namespace Go.Proofs.YtmnmloebomlllaaDoor
open Go.RowKit
set_option linter.unusedVariables false
set_option linter.unusedSimpArgs false
section
variable {w w' : World} {bo : Nat} {v : Value} {l : List (Int × Reg)}
theorem rset_any (h : RefR w bo v l) (c : Int) (r : Reg) (hr : RSl encS w r.A r.rows) (hl : r.rows.length ≤ 1000000) (hs : ∀ s ∈ r.rows, s.size ≤ 1000000000) (ht : r.text.size ≤ 1000000000) (hll : l.length ≤ 1000000) :
    Calls Tryd.prog 28 #[.pointer (some ⟨bo, 0, none⟩), .int .i64 c, regV r] w (RrPost w bo v l (setE c r.con) (rsetM (conM l) c r.con)) := by
  unfold rsetM setE
  cases hch : charI c with
  | false => rw [if_neg (by decide), if_neg (by decide)]; exact rset_char h c r hr hl hs ht hll hch
  | true =>
    rw [if_pos rfl]
    by_cases her : plainE r.con = 0
    · rw [if_pos her, her]
      cases his : isL l c with
      | true => exact rset_old h c r hr hl hs ht hll hch her his
      | false => exact rset_new h c r hr hl hs ht hll hch her his
    · rw [if_neg her]; exact rset_err h c r hr hl hs ht hll hch her
def rdropE (lc : List (Int × Con)) (c : Int) : Int := if isL lc c then 0 else 8
theorem foot_rdel {c : Int} {g : Nat} (h : Foot (rdel l c) g) : Foot l g := by
  obtain ⟨p, hp, hg⟩ := h
  exact ⟨p, rdel_mem hp, hg⟩
set_option maxRecDepth 100000 in
set_option maxHeartbeats 4000000 in
theorem rgdrop_any (h : RefR w bo v l) (c : Int) (hll : l.length ≤ 1000000) :
    Calls Tryd.prog 29 #[.pointer (some ⟨bo, 0, none⟩), .int .i64 c] w (RrPost w bo v l (rdropE (conM l) c) (rdel (conM l) c)) := by
  have HF := Lib.hid (rgfind h c hll)
  have hdm := rdel_map Reg.con l c
  have his0 : isL (conM l) c = isL l c := isL_map Reg.con l c
  unfold rdropE
  rw [his0, show rdel (conM l) c = conM (rdel l c) from hdm.symm]
  cases his : isL l c with
  | false =>
    have hd : rdel l c = l := by unfold rdel; rw [if_neg (by rw [his]; decide)]
    rw [hd, if_neg (by decide)]
    have H := Lib.hid h
    rw [his] at HF
    clear h hd his his0 hdm
    go_enter Tryd.func29, Tryd.ntmps29
    go_wp2_with fail
    refine HF.out.mono ?_
    rintro e w1 ⟨rfl, hb⟩
    go_wp2_with fail
    go_ret
    exact RrPost.same H.out hb _
  | true =>
    rw [if_pos rfl]
    rw [his] at HF
    obtain ⟨x, hi⟩ := isL_at his
    have hil := (List.getElem?_eq_some_iff.1 hi).1
    have hKE := rdel_keys h.sorted c
    have hEQ : rdel l c = l.take (ixL l c) ++ l.drop (ixL l c + 1) := by unfold rdel; rw [if_pos his]
    have HM := Lib.hid (fun (g : Nat) (hg : Foot (rdel l c) g) => foot_rdel hg)
    have hmm := fun p (hp : p ∈ rdel l c) => rdel_mem hp
    rw [hEQ] at hKE HM hmm
    rw [hEQ]
    have H := Lib.hid h
    have HK := Lib.hid hKE
    have HMM := Lib.hid hmm
    generalize ixL l c = i at *
    clear h his his0 hdm hi hEQ hKE hmm
    go_enter Tryd.func29, Tryd.ntmps29
    go_wp2_with fail
    refine HF.out.mono ?_
    rintro e w1 ⟨rfl, hbw⟩
    have h2 := H.out.up hbw
    obtain ⟨AL, cl, rfl, hcl, hcm, hLs⟩ := h2.own.shape eltQ
    unfold maxLen at hcm
    have c0 := h2.c0
    have f0 := h2.f0
    have hbq := h2.lt
    have HSF := Lib.hid (fun (v' : Value) (w9 : World) (hb9 : Below w1.heap.size w1 w9) (hown : ROwn encQ 90 6 w1.heap.size w9 v' (l.take i ++ l.drop (i + 1))) =>
      h2.setL hb9 hown (fun p hp => ⟨h2.regs p (HMM.out p hp), h2.ok p (HMM.out p hp), fun g hg => (h2.apart g ⟨p, HMM.out p hp, hg⟩).1⟩) HK.out)
    obtain ⟨a7, wa7, a8, wa8, ra7, ra8, oa8, ba7, ba8⟩ := delA eltQ (by omega) (i := i) (j := i + 1) hLs hcl (by omega) (by omega) (by omega)
    have HB := Lib.hid hbw
    have hsz2 := hbw.size
    clear h2 hLs hbw
    have C0 : ∀ x : UpW w1.heap.size w1, x.w.cell? ⟨bo, 0, none⟩ = some (.slice AL l.length cl) := fun x => (x.up.cell (p := ⟨bo, 0, none⟩) hbq).trans c0
    go_wp2_with fail
    have hw2 : IntKind.i64.wrap ((i : Int) + 1) = (i : Int) + 1 := IntWalk.i64_in _ (by omega)
    have hq0 : (i : Int) ≤ cl := by omega
    have hq1 : (i : Int) + 1 ≤ cl := by omega
    have hq2 : (i : Int) + 1 ≤ l.length := by omega
    have hq3 : 0 ≤ (i : Int) + 1 := by omega
    have hq4 : ((i : Int) + 1).toNat = i + 1 := by omega
    unfold AppRun at ra7 ra8
    unfold tailA at ra8
    by_cases hcp : cl = i + 1
    · subst hcp
      rw [if_pos rfl, Nat.sub_self, show l.length - (i + 1) = 0 by omega] at ra8
      have RA7 := Lib.hid ra7
      have RA8 := Lib.hid ra8
      clear ra7 ra8
      refine wp_region_mixT w1.heap.size 17 (.one [0, 2, 3, 4, 5, 6, 7, 9, 10, 11, 12, 13, 14, 15] 1 (.one [] 8 (.one [] 16 (.done [])))) (by kernel_rfl) (fun c d v a w h => by cases d <;> exact h) (by kernel_rfl) ?_
      simp only [wpMixT, pk_nil, pk_cons, pushAt_zero, pushAt_succ, List.drop_succ_cons, List.drop_zero]
      repeat (go_big_quiet_step (fail))
      refine wpQuiet_nil ?_
      clear C0 hw2 hq0 hq1 hq2 hq3 hq4
      go_wp2_with fail
      refine thenQ_normal ⟨⟨⟨_, (below1 w1 _).drew⟩, rfl⟩, ?_⟩
      refine wpQuiet_nil ?_
      go_wp2_with (at_builtin; refine wpList_app_run rfl _ _ _ rfl rfl rfl RA7.out ?_)
      refine thenQ_normal ⟨⟨⟨_, ba7⟩, rfl⟩, ?_⟩
      refine wpQuiet_nil ?_
      go_wp2_with (at_builtin; refine wpList_app_run rfl _ _ _ rfl rfl rfl RA8.out ?_)
      refine thenQ_normal ⟨⟨⟨_, ba8⟩, rfl⟩, ?_⟩
      refine wpQuiet_nil ?_
      obtain ⟨A9, cap9, hv9, _, _, _⟩ := oa8.shape eltQ
      generalize (List.take _ l ++ List.drop _ l).length = L9 at hv9
      subst hv9
      have c9 := (ba8.cell (p := ⟨bo, 0, none⟩) hbq).trans c0
      have f9 := (ba8.frozen (p := ⟨bo, 0, none⟩) hbq).trans f0
      have HS := Lib.hid (HSF.out _ _ ba8 oa8)
      have HO9 := Lib.hid oa8
      clear oa8 c0 f0
      go_wp2_with fail
      go_ret
      exact ⟨_, _, rfl, HS.out, rfl, (Only.of_below (HB.out.trans (ba8.mono hsz2))).setCell (p := ⟨bo, 0, none⟩) (.inl rfl) _, fun g hg => .inl (HM.out g hg), fun g hg => .inr (Nat.le_trans hsz2 (HO9.out.base hg))⟩
    · rw [if_neg hcp] at ra8
      have RA7 := Lib.hid ra7
      have RA8 := Lib.hid ra8
      clear ra7 ra8
      refine wp_region_mixT w1.heap.size 17 (.one [0, 2, 3, 4, 5, 6, 7, 9, 10, 11, 12, 13, 14, 15] 1 (.one [] 8 (.one [] 16 (.done [])))) (by kernel_rfl) (fun c d v a w h => by cases d <;> exact h) (by kernel_rfl) ?_
      simp only [wpMixT, pk_nil, pk_cons, pushAt_zero, pushAt_succ, List.drop_succ_cons, List.drop_zero]
      repeat (go_big_quiet_step (fail))
      refine wpQuiet_nil ?_
      clear C0 hw2 hq0 hq1 hq2 hq3 hq4
      go_wp2_with fail
      refine thenQ_normal ⟨⟨⟨_, (below1 w1 _).drew⟩, rfl⟩, ?_⟩
      refine wpQuiet_nil ?_
      go_wp2_with (at_builtin; refine wpList_app_run rfl _ _ _ rfl rfl rfl RA7.out ?_)
      refine thenQ_normal ⟨⟨⟨_, ba7⟩, rfl⟩, ?_⟩
      refine wpQuiet_nil ?_
      go_wp2_with (at_builtin; refine wpList_app_run rfl _ _ _ rfl rfl rfl RA8.out ?_)
      refine thenQ_normal ⟨⟨⟨_, ba8⟩, rfl⟩, ?_⟩
      refine wpQuiet_nil ?_
      obtain ⟨A9, cap9, hv9, _, _, _⟩ := oa8.shape eltQ
      generalize (List.take _ l ++ List.drop _ l).length = L9 at hv9
      subst hv9
      have c9 := (ba8.cell (p := ⟨bo, 0, none⟩) hbq).trans c0
      have f9 := (ba8.frozen (p := ⟨bo, 0, none⟩) hbq).trans f0
      have HS := Lib.hid (HSF.out _ _ ba8 oa8)
      have HO9 := Lib.hid oa8
      clear oa8 c0 f0
      go_wp2_with fail
      go_ret
      exact ⟨_, _, rfl, HS.out, rfl, (Only.of_below (HB.out.trans (ba8.mono hsz2))).setCell (p := ⟨bo, 0, none⟩) (.inl rfl) _, fun g hg => .inl (HM.out g hg), fun g hg => .inr (Nat.le_trans hsz2 (HO9.out.base hg))⟩
end
end Go.Proofs.YtmnmloebomlllaaDoor
