/- Registers: the reference's Set of a new character, Drop. -/
import Derived.Test.YtmnmloebomlllaaDoorKgN
import Derived.Test.YtmnmloebomlllaaDoorIns
namespace Go.Proofs.YtmnmloebomlllaaDoor
open Go.RowKit
set_option linter.unusedVariables false
set_option linter.unusedSimpArgs false
section
variable {w w' : World} {bo : Nat} {v : Value} {l : List (Int × Reg)}
set_option maxRecDepth 100000 in
set_option maxHeartbeats 4000000 in
theorem rset_new (h : RefR w bo v l) (c : Int) (r : Reg) (hr : RSl encS w r.A r.rows) (hl : r.rows.length ≤ 1000000) (hs : ∀ s ∈ r.rows, s.size ≤ 1000000000) (ht : r.text.size ≤ 1000000000) (hll : l.length ≤ 1000000) (hch : charI c = true) (her : plainE r.con = 0) (his : isL l c = false) :
    Calls Tryd.prog 28 #[.pointer (some ⟨bo, 0, none⟩), .int .i64 c, regV r] w (RrPost w bo v l 0 (rput (conM l) c (plainC r.con))) := by
  have HC := Lib.hid (fun w => hch ▸ rchar c w)
  have hcb := charI_bd hch
  have HP := Lib.hid (fun (w1 : World) (hb : Below w.heap.size w w1) => rplain_any r w1 (hr.up hb) hl hs ht)
  have hO := plainC_ok her
  have hR := plainC_rows r.con
  have H := Lib.hid h
  obtain ⟨k, n, id, t, A, cc, rows⟩ := r
  generalize plainE (Reg.con ⟨k, n, id, t, A, cc, rows⟩) = er at *
  generalize plainC (Reg.con ⟨k, n, id, t, A, cc, rows⟩) = co at *
  have HO := Lib.hid hO
  have HF := Lib.hid (fun (w1 : World) (hb : Below w.heap.size w w1) => rgfind (h.up hb) c hll)
  subst her
  clear h hr hch hs hO
  go_enter Tryd.func28, Tryd.ntmps28
  go_wp2_with fail
  refine (HC.out _).mono ?_
  rintro e w' ⟨rfl, rfl⟩
  go_wp2_with fail
  refine (HP.out _ (below1 _ _)).mono ?_
  rintro e w1 ⟨⟨yk, yn, yi, yt, yA, yc, yr⟩, rfl, hy, hin, hfr, hb⟩
  have hb1 := up2 (up2 (below1 _ _) hb) (below1 w1 (.cells #[.int .i64 yk, .int .i64 yn, .int .i64 yi, .string yt, .slice yA yr.length yc] 56))
  go_wp2_with fail
  refine (HF.out _ hb1).mono ?_
  rintro e w2 ⟨rfl, hb2⟩
  rw [his]
  have hbw := up2 hb1 hb2
  have h2 := H.out.up hbw
  have u0 := hb2.cell (p := ⟨w1.heap.size, 0, none⟩) (by simp)
  have u1 := hb2.cell (p := ⟨w1.heap.size, 1, none⟩) (by simp)
  have u2 := hb2.cell (p := ⟨w1.heap.size, 2, none⟩) (by simp)
  have u3 := hb2.cell (p := ⟨w1.heap.size, 3, none⟩) (by simp)
  have u4 := hb2.cell (p := ⟨w1.heap.size, 4, none⟩) (by simp)
  simp at u0 u1 u2 u3 u4
  have hin2 : RegIn w2 ⟨yk, yn, yi, yt, yA, yc, yr⟩ := (hin.up (below1 _ _)).up hb2
  have hfr2 : ∀ g, regBlk ⟨yk, yn, yi, yt, yA, yc, yr⟩ g → w.heap.size ≤ g := fun g hg => by have := hfr.blk hg; simp at this; omega
  have hok2 := reg_ok hcb hy (Nat.le_trans hR hl) HO.out
  have hzz : w1.heap.size < w2.heap.size := by have := hb2.size; simp at this; omega
  obtain ⟨AL, cl, rfl, hcl, hcm, hLs⟩ := h2.own.shape eltQ
  have HLQ := Lib.hid hLs
  have hcm' := hcm
  unfold maxLen at hcm'
  have hil0 := ixL_le l c
  have c0 := h2.c0
  have f0 := h2.f0
  have hbq := h2.lt
  have HY := Lib.hid hy
  have HR2 := Lib.hid hfr2
  have HB := Lib.hid hbw
  have hEQ : rput l c ⟨yk, yn, yi, yt, yA, yc, yr⟩ = l.take (ixL l c) ++ [(c, ⟨yk, yn, yi, yt, yA, yc, yr⟩)] ++ l.drop (ixL l c) := by unfold rput; rw [if_neg (by rw [his]; decide)]
  have hEC : conM (rput l c ⟨yk, yn, yi, yt, yA, yc, yr⟩) = rput (conM l) c co := by
    have := rput_map Reg.con l c ⟨yk, yn, yi, yt, yA, yc, yr⟩
    rw [hy] at this
    exact this
  have hKE := rput_keys H.out.sorted c (⟨yk, yn, yi, yt, yA, yc, yr⟩ : Reg)
  rw [hEQ] at hEC hKE
  have HSF := Lib.hid (fun (v' : Value) (w9 : World) (hb9 : Below w2.heap.size w2 w9) (hown : ROwn encQ 90 6 w2.heap.size w9 v' (l.take (ixL l c) ++ [(c, ⟨yk, yn, yi, yt, yA, yc, yr⟩)] ++ l.drop (ixL l c))) =>
    h2.setL hb9 hown (fun p hp => by
      rcases List.mem_append.1 hp with hp | hp
      · rcases List.mem_append.1 hp with hp | hp
        · have hm := List.mem_of_mem_take hp
          exact ⟨h2.regs p hm, h2.ok p hm, fun g hg => (h2.apart g ⟨p, hm, hg⟩).1⟩
        · obtain rfl : p = (c, ⟨yk, yn, yi, yt, yA, yc, yr⟩) := by simpa using hp
          exact ⟨hin2, hok2, fun g hg e => by have := hfr2 g hg; have := H.out.lt; omega⟩
      · have hm := List.mem_of_mem_drop hp
        exact ⟨h2.regs p hm, h2.ok p hm, fun g hg => (h2.apart g ⟨p, hm, hg⟩).1⟩) hKE)
  have HE := Lib.hid hEC
  have hmem : ∀ g, Foot (l.take (ixL l c) ++ [(c, ⟨yk, yn, yi, yt, yA, yc, yr⟩)] ++ l.drop (ixL l c)) g → Foot l g ∨ w.heap.size ≤ g := by
    intro g ⟨p, hp, hg⟩
    rw [← hEQ] at hp
    rcases rput_mem hp with h1 | rfl
    · exact .inl ⟨p, h1, hg⟩
    · exact .inr (hfr2 g hg)
  have HM := Lib.hid hmem
  have hsz2 := hbw.size
  have HLL := Lib.hid hll
  generalize ixL l c = i at *
  generalize w1.heap.size = y0 at *
  clear hLs hcm h2 hbw hy hfr2 hfr hin hin2 hok2 hb hb1 hb2 his hEQ hEC hKE hmem
  go_wp2_with fail
  obtain ⟨wq, rfl⟩ : ∃ wq : World, wq = w2 := ⟨_, rfl⟩
  have hq1 : (i : Int) ≤ cl := by omega
  have hq2 : (i : Int) ≤ l.length := by omega
  have hq3 : (0 : Int) ≤ i := by omega
  obtain ⟨a7, wa7, a8, wa8, a9, wa9, ra7, ra8, ra9, oa9, ba7, ba8, ba9⟩ := insA eltQ (by omega) (x := (c, (⟨yk, yn, yi, yt, yA, yc, yr⟩ : Reg))) HLQ.out hcl hil0 (by omega)
  obtain ⟨b7, wb7, b8, wb8, b9, wb9, rb7, rb8, rb9, ob9, bb7, bb8, bb9⟩ := insB eltQ (by omega) (x := (c, (⟨yk, yn, yi, yt, yA, yc, yr⟩ : Reg))) HLQ.out hcl hil0 (by omega)
  obtain ⟨c7, wc7, c8, wc8, c9, wc9, rc7, rc8, rc9, oc9, bc7, bc8, bc9⟩ := insC eltQ (by omega) (x := (c, (⟨yk, yn, yi, yt, yA, yc, yr⟩ : Reg))) HLQ.out hcl hil0 (by omega)
  unfold AppRun at ra7 ra8 ra9 rb7 rb8 rb9 rc7 rc8 rc9
  unfold tailA at ra9 rb9 rc9
  by_cases hcp : cl = i
  · subst hcp
    rw [if_pos rfl, Nat.sub_self, show l.length - cl = 0 by omega] at ra9 rb9 rc9
    have RA7 := Lib.hid ra7
    have RA8 := Lib.hid ra8
    have RA9 := Lib.hid ra9
    have RB7 := Lib.hid rb7
    have RB8 := Lib.hid rb8
    have RB9 := Lib.hid rb9
    have RC7 := Lib.hid rc7
    have RC8 := Lib.hid rc8
    have RC9 := Lib.hid rc9
    clear ra7 ra8 ra9 rb7 rb8 rb9 rc7 rc8 rc9
    have C0 : ∀ x : UpW wq.heap.size wq, x.w.cell? ⟨bo, 0, none⟩ = some (.slice AL l.length cl) := fun x => (x.up.cell (p := ⟨bo, 0, none⟩) hbq).trans c0
    have U0 : ∀ x : UpW wq.heap.size wq, x.w.cell? ⟨y0, 0, none⟩ = some (.int .i64 yk) := fun x => (x.up.cell (p := ⟨y0, 0, none⟩) hzz).trans u0
    have U1 : ∀ x : UpW wq.heap.size wq, x.w.cell? ⟨y0, 1, none⟩ = some (.int .i64 yn) := fun x => (x.up.cell (p := ⟨y0, 1, none⟩) hzz).trans u1
    have U2 : ∀ x : UpW wq.heap.size wq, x.w.cell? ⟨y0, 2, none⟩ = some (.int .i64 yi) := fun x => (x.up.cell (p := ⟨y0, 2, none⟩) hzz).trans u2
    have U3 : ∀ x : UpW wq.heap.size wq, x.w.cell? ⟨y0, 3, none⟩ = some (.string yt) := fun x => (x.up.cell (p := ⟨y0, 3, none⟩) hzz).trans u3
    have U4 : ∀ x : UpW wq.heap.size wq, x.w.cell? ⟨y0, 4, none⟩ = some (.slice yA yr.length yc) := fun x => (x.up.cell (p := ⟨y0, 4, none⟩) hzz).trans u4
    refine wp_region_mixT wq.heap.size 21 (.two [0, 2, 3, 4, 5, 6, 7, 9, 10, 11, 14, 15, 16, 17, 18, 19] 1 (.two [] 8 (.one [] 12 (.one [] 13 (.one [] 20 (.done [])))) 12 (.one [] 8 (.one [] 13 (.one [] 20 (.done []))))) 12 (.one [] 1 (.one [] 8 (.one [] 13 (.one [] 20 (.done [])))))) (by kernel_rfl) (fun c d v a w h => by cases d <;> exact h) (by kernel_rfl) ?_
    simp only [wpMixT, pk_nil, pk_cons, pushAt_zero, pushAt_succ, List.drop_succ_cons, List.drop_zero]
    repeat (go_big_quiet_step (fail))
    refine wpQuiet_nil ?_
    clear C0 U0 U1 U2 U3 U4 u0 u1 u2 u3 u4 hq1 hq2 hq3
    have hb1 : ∀ o, Below wq.heap.size wq (wq.alloc o).drew := fun o => (below1 wq o).drew
    have hb2 : ∀ o o', Below wq.heap.size wq ((wq.alloc o).alloc o').drew := fun o o' => (up2 (below1 wq o) (below1 _ o')).drew
    refine ⟨?_, ?_⟩
    · go_wp2_with fail
      refine thenQ_normal ⟨⟨⟨_, hb1 _⟩, rfl⟩, ?_⟩
      refine wpQuiet_nil ?_
      refine ⟨?_, ?_⟩
      · go_wp2_with (at_builtin; refine wpList_app_run rfl _ _ _ rfl rfl rfl RA7.out ?_)
        refine thenQ_normal ⟨⟨⟨_, ba7⟩, rfl⟩, ?_⟩
        refine wpQuiet_nil ?_
        go_wp2_with fail
        refine thenQ_normal ⟨⟨⟨_, ba7.alloc ba7.size _⟩, rfl⟩, ?_⟩
        refine wpQuiet_nil ?_
        go_wp2_with (at_builtin; refine wpList_app_run rfl _ _ _ rfl rfl rfl RA8.out ?_)
        refine thenQ_normal ⟨⟨⟨_, ba8⟩, rfl⟩, ?_⟩
        refine wpQuiet_nil ?_
        go_wp2_with (at_builtin; refine wpList_app_run rfl _ _ _ rfl rfl rfl RA9.out ?_)
        refine thenQ_normal ⟨⟨⟨_, ba9⟩, rfl⟩, ?_⟩
        refine wpQuiet_nil ?_
        obtain ⟨A9, cap9, hv9, _, _, _⟩ := oa9.shape eltQ
        generalize (List.take _ l ++ _ ++ List.drop _ l).length = L9 at hv9
        subst hv9
        have c9 := (ba9.cell (p := ⟨bo, 0, none⟩) hbq).trans c0
        have f9 := (ba9.frozen (p := ⟨bo, 0, none⟩) hbq).trans f0
        have HS := Lib.hid (HSF.out _ _ ba9 oa9)
        have HO9 := Lib.hid oa9
        clear oa9 c0 f0
        go_wp2_with fail
        go_ret
        exact ⟨_, _, rfl, HS.out, HE.out, (Only.of_below (HB.out.trans (ba9.mono hsz2))).setCell (p := ⟨bo, 0, none⟩) (.inl rfl) _, HM.out, fun g hg => .inr (Nat.le_trans hsz2 (HO9.out.base hg))⟩
      · go_wp2_with fail
        refine thenQ_normal ⟨⟨⟨_, hb2 _ _⟩, rfl⟩, ?_⟩
        refine wpQuiet_nil ?_
        go_wp2_with (at_builtin; refine wpList_app_run rfl _ _ _ rfl rfl rfl RB7.out ?_)
        refine thenQ_normal ⟨⟨⟨_, bb7⟩, rfl⟩, ?_⟩
        refine wpQuiet_nil ?_
        go_wp2_with (at_builtin; refine wpList_app_run rfl _ _ _ rfl rfl rfl RB8.out ?_)
        refine thenQ_normal ⟨⟨⟨_, bb8⟩, rfl⟩, ?_⟩
        refine wpQuiet_nil ?_
        go_wp2_with (at_builtin; refine wpList_app_run rfl _ _ _ rfl rfl rfl RB9.out ?_)
        refine thenQ_normal ⟨⟨⟨_, bb9⟩, rfl⟩, ?_⟩
        refine wpQuiet_nil ?_
        obtain ⟨A9, cap9, hv9, _, _, _⟩ := ob9.shape eltQ
        generalize (List.take _ l ++ _ ++ List.drop _ l).length = L9 at hv9
        subst hv9
        have c9 := (bb9.cell (p := ⟨bo, 0, none⟩) hbq).trans c0
        have f9 := (bb9.frozen (p := ⟨bo, 0, none⟩) hbq).trans f0
        have HS := Lib.hid (HSF.out _ _ bb9 ob9)
        have HO9 := Lib.hid ob9
        clear ob9 c0 f0
        go_wp2_with fail
        go_ret
        exact ⟨_, _, rfl, HS.out, HE.out, (Only.of_below (HB.out.trans (bb9.mono hsz2))).setCell (p := ⟨bo, 0, none⟩) (.inl rfl) _, HM.out, fun g hg => .inr (Nat.le_trans hsz2 (HO9.out.base hg))⟩
    · go_wp2_with fail
      refine thenQ_normal ⟨⟨⟨_, hb1 _⟩, rfl⟩, ?_⟩
      refine wpQuiet_nil ?_
      go_wp2_with fail
      refine thenQ_normal ⟨⟨⟨_, hb2 _ _⟩, rfl⟩, ?_⟩
      refine wpQuiet_nil ?_
      go_wp2_with (at_builtin; refine wpList_app_run rfl _ _ _ rfl rfl rfl RC7.out ?_)
      refine thenQ_normal ⟨⟨⟨_, bc7⟩, rfl⟩, ?_⟩
      refine wpQuiet_nil ?_
      go_wp2_with (at_builtin; refine wpList_app_run rfl _ _ _ rfl rfl rfl RC8.out ?_)
      refine thenQ_normal ⟨⟨⟨_, bc8⟩, rfl⟩, ?_⟩
      refine wpQuiet_nil ?_
      go_wp2_with (at_builtin; refine wpList_app_run rfl _ _ _ rfl rfl rfl RC9.out ?_)
      refine thenQ_normal ⟨⟨⟨_, bc9⟩, rfl⟩, ?_⟩
      refine wpQuiet_nil ?_
      obtain ⟨A9, cap9, hv9, _, _, _⟩ := oc9.shape eltQ
      generalize (List.take _ l ++ _ ++ List.drop _ l).length = L9 at hv9
      subst hv9
      have c9 := (bc9.cell (p := ⟨bo, 0, none⟩) hbq).trans c0
      have f9 := (bc9.frozen (p := ⟨bo, 0, none⟩) hbq).trans f0
      have HS := Lib.hid (HSF.out _ _ bc9 oc9)
      have HO9 := Lib.hid oc9
      clear oc9 c0 f0
      go_wp2_with fail
      go_ret
      exact ⟨_, _, rfl, HS.out, HE.out, (Only.of_below (HB.out.trans (bc9.mono hsz2))).setCell (p := ⟨bo, 0, none⟩) (.inl rfl) _, HM.out, fun g hg => .inr (Nat.le_trans hsz2 (HO9.out.base hg))⟩
  · rw [if_neg hcp] at ra9 rb9 rc9
    have hcp' : (cl == i) = false := by simpa using hcp
    have RA7 := Lib.hid ra7
    have RA8 := Lib.hid ra8
    have RA9 := Lib.hid ra9
    have RB7 := Lib.hid rb7
    have RB8 := Lib.hid rb8
    have RB9 := Lib.hid rb9
    have RC7 := Lib.hid rc7
    have RC8 := Lib.hid rc8
    have RC9 := Lib.hid rc9
    clear ra7 ra8 ra9 rb7 rb8 rb9 rc7 rc8 rc9
    have C0 : ∀ x : UpW wq.heap.size wq, x.w.cell? ⟨bo, 0, none⟩ = some (.slice AL l.length cl) := fun x => (x.up.cell (p := ⟨bo, 0, none⟩) hbq).trans c0
    have U0 : ∀ x : UpW wq.heap.size wq, x.w.cell? ⟨y0, 0, none⟩ = some (.int .i64 yk) := fun x => (x.up.cell (p := ⟨y0, 0, none⟩) hzz).trans u0
    have U1 : ∀ x : UpW wq.heap.size wq, x.w.cell? ⟨y0, 1, none⟩ = some (.int .i64 yn) := fun x => (x.up.cell (p := ⟨y0, 1, none⟩) hzz).trans u1
    have U2 : ∀ x : UpW wq.heap.size wq, x.w.cell? ⟨y0, 2, none⟩ = some (.int .i64 yi) := fun x => (x.up.cell (p := ⟨y0, 2, none⟩) hzz).trans u2
    have U3 : ∀ x : UpW wq.heap.size wq, x.w.cell? ⟨y0, 3, none⟩ = some (.string yt) := fun x => (x.up.cell (p := ⟨y0, 3, none⟩) hzz).trans u3
    have U4 : ∀ x : UpW wq.heap.size wq, x.w.cell? ⟨y0, 4, none⟩ = some (.slice yA yr.length yc) := fun x => (x.up.cell (p := ⟨y0, 4, none⟩) hzz).trans u4
    refine wp_region_mixT wq.heap.size 21 (.two [0, 2, 3, 4, 5, 6, 7, 9, 10, 11, 14, 15, 16, 17, 18, 19] 1 (.two [] 8 (.one [] 12 (.one [] 13 (.one [] 20 (.done [])))) 12 (.one [] 8 (.one [] 13 (.one [] 20 (.done []))))) 12 (.one [] 1 (.one [] 8 (.one [] 13 (.one [] 20 (.done [])))))) (by kernel_rfl) (fun c d v a w h => by cases d <;> exact h) (by kernel_rfl) ?_
    simp only [wpMixT, pk_nil, pk_cons, pushAt_zero, pushAt_succ, List.drop_succ_cons, List.drop_zero]
    repeat (go_big_quiet_step (fail))
    refine wpQuiet_nil ?_
    clear C0 U0 U1 U2 U3 U4 u0 u1 u2 u3 u4 hq1 hq2 hq3
    have hb1 : ∀ o, Below wq.heap.size wq (wq.alloc o).drew := fun o => (below1 wq o).drew
    have hb2 : ∀ o o', Below wq.heap.size wq ((wq.alloc o).alloc o').drew := fun o o' => (up2 (below1 wq o) (below1 _ o')).drew
    refine ⟨?_, ?_⟩
    · go_wp2_with fail
      refine thenQ_normal ⟨⟨⟨_, hb1 _⟩, rfl⟩, ?_⟩
      refine wpQuiet_nil ?_
      refine ⟨?_, ?_⟩
      · go_wp2_with (at_builtin; refine wpList_app_run rfl _ _ _ rfl rfl rfl RA7.out ?_)
        refine thenQ_normal ⟨⟨⟨_, ba7⟩, rfl⟩, ?_⟩
        refine wpQuiet_nil ?_
        go_wp2_with fail
        refine thenQ_normal ⟨⟨⟨_, ba7.alloc ba7.size _⟩, rfl⟩, ?_⟩
        refine wpQuiet_nil ?_
        go_wp2_with (at_builtin; refine wpList_app_run rfl _ _ _ rfl rfl rfl RA8.out ?_)
        refine thenQ_normal ⟨⟨⟨_, ba8⟩, rfl⟩, ?_⟩
        refine wpQuiet_nil ?_
        go_wp2_with (at_builtin; refine wpList_app_run rfl _ _ _ rfl rfl rfl RA9.out ?_)
        refine thenQ_normal ⟨⟨⟨_, ba9⟩, rfl⟩, ?_⟩
        refine wpQuiet_nil ?_
        obtain ⟨A9, cap9, hv9, _, _, _⟩ := oa9.shape eltQ
        generalize (List.take _ l ++ _ ++ List.drop _ l).length = L9 at hv9
        subst hv9
        have c9 := (ba9.cell (p := ⟨bo, 0, none⟩) hbq).trans c0
        have f9 := (ba9.frozen (p := ⟨bo, 0, none⟩) hbq).trans f0
        have HS := Lib.hid (HSF.out _ _ ba9 oa9)
        have HO9 := Lib.hid oa9
        clear oa9 c0 f0
        go_wp2_with fail
        go_ret
        exact ⟨_, _, rfl, HS.out, HE.out, (Only.of_below (HB.out.trans (ba9.mono hsz2))).setCell (p := ⟨bo, 0, none⟩) (.inl rfl) _, HM.out, fun g hg => .inr (Nat.le_trans hsz2 (HO9.out.base hg))⟩
      · go_wp2_with fail
        refine thenQ_normal ⟨⟨⟨_, hb2 _ _⟩, rfl⟩, ?_⟩
        refine wpQuiet_nil ?_
        go_wp2_with (at_builtin; refine wpList_app_run rfl _ _ _ rfl rfl rfl RB7.out ?_)
        refine thenQ_normal ⟨⟨⟨_, bb7⟩, rfl⟩, ?_⟩
        refine wpQuiet_nil ?_
        go_wp2_with (at_builtin; refine wpList_app_run rfl _ _ _ rfl rfl rfl RB8.out ?_)
        refine thenQ_normal ⟨⟨⟨_, bb8⟩, rfl⟩, ?_⟩
        refine wpQuiet_nil ?_
        go_wp2_with (at_builtin; refine wpList_app_run rfl _ _ _ rfl rfl rfl RB9.out ?_)
        refine thenQ_normal ⟨⟨⟨_, bb9⟩, rfl⟩, ?_⟩
        refine wpQuiet_nil ?_
        obtain ⟨A9, cap9, hv9, _, _, _⟩ := ob9.shape eltQ
        generalize (List.take _ l ++ _ ++ List.drop _ l).length = L9 at hv9
        subst hv9
        have c9 := (bb9.cell (p := ⟨bo, 0, none⟩) hbq).trans c0
        have f9 := (bb9.frozen (p := ⟨bo, 0, none⟩) hbq).trans f0
        have HS := Lib.hid (HSF.out _ _ bb9 ob9)
        have HO9 := Lib.hid ob9
        clear ob9 c0 f0
        go_wp2_with fail
        go_ret
        exact ⟨_, _, rfl, HS.out, HE.out, (Only.of_below (HB.out.trans (bb9.mono hsz2))).setCell (p := ⟨bo, 0, none⟩) (.inl rfl) _, HM.out, fun g hg => .inr (Nat.le_trans hsz2 (HO9.out.base hg))⟩
    · go_wp2_with fail
      refine thenQ_normal ⟨⟨⟨_, hb1 _⟩, rfl⟩, ?_⟩
      refine wpQuiet_nil ?_
      go_wp2_with fail
      refine thenQ_normal ⟨⟨⟨_, hb2 _ _⟩, rfl⟩, ?_⟩
      refine wpQuiet_nil ?_
      go_wp2_with (at_builtin; refine wpList_app_run rfl _ _ _ rfl rfl rfl RC7.out ?_)
      refine thenQ_normal ⟨⟨⟨_, bc7⟩, rfl⟩, ?_⟩
      refine wpQuiet_nil ?_
      go_wp2_with (at_builtin; refine wpList_app_run rfl _ _ _ rfl rfl rfl RC8.out ?_)
      refine thenQ_normal ⟨⟨⟨_, bc8⟩, rfl⟩, ?_⟩
      refine wpQuiet_nil ?_
      go_wp2_with (at_builtin; refine wpList_app_run rfl _ _ _ rfl rfl rfl RC9.out ?_)
      refine thenQ_normal ⟨⟨⟨_, bc9⟩, rfl⟩, ?_⟩
      refine wpQuiet_nil ?_
      obtain ⟨A9, cap9, hv9, _, _, _⟩ := oc9.shape eltQ
      generalize (List.take _ l ++ _ ++ List.drop _ l).length = L9 at hv9
      subst hv9
      have c9 := (bc9.cell (p := ⟨bo, 0, none⟩) hbq).trans c0
      have f9 := (bc9.frozen (p := ⟨bo, 0, none⟩) hbq).trans f0
      have HS := Lib.hid (HSF.out _ _ bc9 oc9)
      have HO9 := Lib.hid oc9
      clear oc9 c0 f0
      go_wp2_with fail
      go_ret
      exact ⟨_, _, rfl, HS.out, HE.out, (Only.of_below (HB.out.trans (bc9.mono hsz2))).setCell (p := ⟨bo, 0, none⟩) (.inl rfl) _, HM.out, fun g hg => .inr (Nat.le_trans hsz2 (HO9.out.base hg))⟩
end
end Go.Proofs.YtmnmloebomlllaaDoor
