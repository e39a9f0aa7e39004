import Derived.Test.YtnbccoelbfgmgaaGreatDoorZ19
import Derived.Test.YtnbccoelbfgmgaaGreatDoorZ15
import Derived.Laws.CopyOwn
import Derived.Laws.Rows
import Derived.Laws.Tables
import Derived.Test.YtnbccoelbfgmgaaGreatDoorZ04
import Derived.Test.YtnbccoelbfgmgaaGreatDoorZ17
import Derived.Test.YtnbccoelbfgmgaaGreatDoorZ18
/- undo.Log.Copy at any log: the walk. -/
namespace Go.Proofs.YtnbccoelbfgmgaaGreatDoor
open Go.RowKit Go.Lib
set_option linter.unusedVariables false
set_option linter.unusedSimpArgs false
section
variable {w : World} {l : Nat} {gv ov : Value} {vs : List Sl3} {G : List (List Chg)} {O : List Chg} {ch co nw : Int}
/-- A whole copy of a log, in new blocks. -/
def LogCpP (w : World) (G : List (List Chg)) (O : List Chg) (ch co nw : Int) (e : Ending) (w' : World) : Prop := ∃ l', e = .returned (pAt l') ∧ LgCp w G O ch co nw l' w'
set_option maxRecDepth 100000 in
set_option maxHeartbeats 4000000 in
theorem lcopy_ok (h : LogX w l gv ov vs G O ch co nw) (hO : O.length ≤ 1000000) (hv : G.length ≤ 1000000) (hG : ∀ g ∈ G, g.length ≤ 1000000) :
    Calls Tryz.prog 94 #[pAt l] w (LogCpP w G O ch co nw) := by
  have HN := Lib.hid (gnoneL h.blk)
  obtain ⟨A1, cap1, rfl, hn1, hn2, hr1⟩ := h.gr.shape eltG
  obtain ⟨A2, cap2, rfl, _, _, _⟩ := h.op.shape eltCg
  have H := Lib.hid h
  have HGL := Lib.hid hG
  have hll := h.blk.lt
  have HB1 := Lib.hid (below1 w (.cells (logC (.slice A1 vs.length cap1) (.slice A2 O.length cap2) ch co nw) 173))
  have hN1 := Blk.made w 173 (logC (.slice A1 vs.length cap1) (.slice A2 O.length cap2) ch co nw)
  have hz1 : (w.alloc (.cells (logC (.slice A1 vs.length cap1) (.slice A2 O.length cap2) ch co nw) 173)).heap.size = w.heap.size + 1 := by simp
  have HZ := Lib.hid hz1
  have HN1 := Lib.hid hN1
  have hcl := cloneO (w := w.alloc (.cells (logC (.slice A1 vs.length cap1) (.slice A2 O.length cap2) ch co nw) 173)) (h.op.up HB1.out) h.nil hO
  have HCL := Lib.hid hcl
  have c0 := h.blk.cell (j := 0) rfl
  have c1 := h.blk.cell (j := 1) rfl
  have c2 := h.blk.cell (j := 2) rfl
  have c3 := h.blk.cell (j := 3) rfl
  have c4 := h.blk.cell (j := 4) rfl
  have c5 := h.blk.cell (j := 5) rfl
  clear h hG hcl hN1 hz1
  go_enter Tryz.func94, Tryz.ntmps94
  go_wp2_with fail
  refine HN.out.mono ?_
  rintro e w' ⟨rfl, rfl⟩
  go_wp2_with fail
  refine HCL.out.mono ?_
  rintro e w1 ⟨v2, rfl, ho2, hb2, hn2'⟩
  have hlw : l < w1.heap.size := by have := hb2.size; have := HZ.out; omega
  have B1 := Lib.hid (up2 HB1.out hb2)
  have M1 := HN1.out.up hb2
  have ho2' := (ho2.low (B' := w.heap.size) (by have := HZ.out; omega))
  have hbs := fun k (hk : v2.ownBlock = some k) => ho2.base hk
  obtain ⟨A3, cap3, rfl, _, _, _⟩ := ho2.shape eltCg
  have f1 := M1.fz 1
  have f2 := M1.fz 2
  have q1 := M1.cell (j := 1) rfl
  have q2 := M1.cell (j := 2) rfl
  have c1 := (H.out.blk.up B1.out).cell (j := 1) rfl
  have hne : l ≠ w.heap.size := by omega
  have hne' : w.heap.size ≠ l := by omega
  have M2 := Lib.hid ((M1.set (j := 2) (by simp) (.slice A3 O.length cap3)).set (j := 1) (by simp) (.slice none 0 0))
  have K2 : Hid (∀ k, k ≠ w.heap.size → ((w1.setCell ⟨w.heap.size, 2, none⟩ (.slice A3 O.length cap3)).setCell ⟨w.heap.size, 1, none⟩ (.slice none 0 0)).heap[k]? = w1.heap[k]?) := Lib.hid (fun k hk => (Below.heap_setCell _ ⟨w.heap.size, 1, none⟩ _ _ hk).trans (Below.heap_setCell _ ⟨w.heap.size, 2, none⟩ _ _ hk))
  have B2 : Hid (Below w.heap.size w ((w1.setCell ⟨w.heap.size, 2, none⟩ (.slice A3 O.length cap3)).setCell ⟨w.heap.size, 1, none⟩ (.slice none 0 0))) := Lib.hid ((B1.out.setCell (p := ⟨w.heap.size, 2, none⟩) (Nat.le_refl _) _).setCell (p := ⟨w.heap.size, 1, none⟩) (Nat.le_refl _) _)
  have HO2 := Lib.hid ho2'
  have HBS := Lib.hid hbs
  have HNL := Lib.hid hn2'
  clear hb2 ho2 ho2' hn2' hbs M1 c0 c2 c3 c4 c5 HCL HN
  go_wp2_with fail
  generalize (w1.setCell ⟨w.heap.size, 2, none⟩ (.slice A3 O.length cap3)).setCell ⟨w.heap.size, 1, none⟩ (.slice none 0 0) = W at *
  have hI0 : LgCp w (G.take 0) O ch co nw w.heap.size W := by
    refine ⟨.slice none 0 0, _, [], ⟨M2.out, ROwn.nil _ _, by simp, fun i x g h1 h2 => by simp at h1, (HO2.out.low (Nat.zero_le _)).kept (fun k e => K2.out k (by have := HBS.out k e; have := HZ.out; omega)), HNL.out, fun k hk => ⟨by have := HBS.out k hk; have := HZ.out; omega, by simp [Value.ownBlock]⟩, fun k hk => by simp [Value.ownBlock] at hk, fun x hx => by cases hx⟩, fun k hk => ?_, B2.out⟩
    rcases hk with rfl | hk | hk | ⟨x, hx, _⟩
    · exact Nat.le_refl _
    · simp [Value.ownBlock] at hk
    · have := HBS.out k hk; have := HZ.out; omega
    · cases hx
  have HI0 := Lib.hid hI0
  clear hI0 f1 f2 q1 q2 c1 hne hne' M2 K2 B2 HO2 HBS HNL HN1 HB1 HZ B1
  obtain ⟨l', hl'⟩ : ∃ l', l' = w.heap.size := ⟨_, rfl⟩
  rw [← hl'] at HI0
  rw [← hl']
  clear hl'
  go_loopw [23] (fun vi wr => ∃ i : Nat, i ≤ G.length ∧ vi = .int .i64 i ∧ LgCp w (G.take i) O ch co nw l' wr) (fun vi _ => G.length - (intOf vi).toNat)
  case atStart => exact ⟨0, by omega, rfl, HI0.out⟩
  case round =>
    obtain ⟨i, hi, rfl, VV, ov', vs', hX, hF, hB⟩ := hrel
    obtain ⟨wz, rfl⟩ : ∃ x, x = wr := ⟨_, rfl⟩
    have hlen := H.out.len
    by_cases hlt : i < G.length
    · obtain ⟨x, hx⟩ : ∃ x, vs[i]? = some x := ⟨_, List.getElem?_eq_getElem (by omega)⟩
      obtain ⟨g, hg⟩ : ∃ g, G[i]? = some g := ⟨_, List.getElem?_eq_getElem hlt⟩
      have hrow := H.out.rows i x g hx hg
      obtain ⟨Ag, cg, hsl, _, _, hrg⟩ := hrow.1.shape eltCg
      have hgl := HGL.out g (List.mem_of_getElem? hg)
      obtain ⟨gb, o, hAe, hgb, hc⟩ := (hr1.up hB).at_ eltG hx
      have k0 := hc 0 _ rfl
      simp only [Nat.mul_one, Nat.add_zero] at k0
      have k0' : wz.cell? ⟨gb, o + i, none⟩ = some (.slice Ag g.length cg) := by rw [k0]; exact congrArg some hsl
      subst hAe
      have d1 : decide ((i : Int) < (vs.length : Int)) = true := decide_eq_true (by omega)
      have d2 : i < vs.length := by omega
      have d3 : (i : Int) < vs.length := by omega
      have s1 : IntKind.i64.wrap ((i : Int) + 1) = ((i + 1 : Nat) : Int) := by rw [IntWalk.i64_in _ (by omega)]; omega
      have hcl := cloneCg (w := wz.drew) (hrg.up (hB.drew)) cg hgl
      have HCL := Lib.hid hcl
      have XX := Lib.hid hX
      have HB := Lib.hid hB
      have HFF := Lib.hid hF
      have HXX := Lib.hid (⟨hx, hg, hrow, hsl⟩ : _ ∧ _ ∧ _ ∧ _)
      have C1 : ∀ X : OnW (fun k => VV.ownBlock = some k) wz, X.w.cell? ⟨l', 1, none⟩ = some VV := fun X => (XX.out.blk.only X.on (fun hk => XX.out.s2 l' hk rfl)).cell (j := 1) rfl
      clear hcl hX hB hF hx hg hrow hsl hc k0 hgb hlen
      go_wp2_with fail
      refine wp_region_mixS2 (fun k => VV.ownBlock = some k) (fun k => k = l' ∨ VV.ownBlock = some k) (fun k hk => .inr hk) [7] (.one [(0, true), (1, true), (2, true)] 3 (.one [] 4 (.one [] 5 (.one [(6, true)] 7 (.done []))))) (by kernel_rfl) (fun c d v a w h => by cases d <;> exact h) (by kernel_rfl) ?_
      simp only [wpMixS, wpQ2, pk_nil, pk_cons, pushAt_zero, pushAt_succ, List.contains_cons, List.contains_nil, Bool.false_or, Bool.or_false, Bool.true_or, Bool.or_true, Nat.reduceBEq, Nat.reduceEqDiff]
      repeat (first | go_big_quiet_step (fail) | refine wpQuiet_nil ?_)
      clear C1
      go_wp2_with fail
      refine HCL.out.mono ?_
      rintro e w4 ⟨v4, rfl, ho4, hb4⟩
      have B4 := Lib.hid (show Below wz.heap.size wz w4 from (Below.refl _ wz).drew.trans hb4)
      obtain ⟨A4, c4, rfl, _, _, _⟩ := ho4.shape eltCg
      obtain ⟨v5, w5, happ, hown5, hb5, ho5, hblk5⟩ := append_elem eltG (B := 0) (w := w4) (XX.out.gr.up B4.out) (Nat.zero_le _) (A4, g.length, c4) (by have := XX.out.len; simp at this; omega) (by omega)
      have HP := Lib.hid happ
      have H5 := Lib.hid (⟨hown5, hb5, ho5, hblk5⟩ : _ ∧ _ ∧ _ ∧ _)
      have H4 := Lib.hid ho4
      obtain ⟨A5, c5, hv5, _, _, _⟩ := hown5.shape eltG
      obtain ⟨n5, hn5⟩ : ∃ n, n = (vs' ++ [(A4, g.length, c4)]).length := ⟨_, rfl⟩
      rw [← hn5] at hv5
      subst hv5
      clear happ hown5 hb5 ho5 hblk5 ho4 hb4 HCL hn5
      go_wp2_with fail
      refine thenQ_normal ⟨⟨⟨_, Only.of_below B4.out⟩, rfl⟩, ?_⟩
      go_wp2_with fail
      refine thenQ_normal ⟨⟨⟨_, (Only.of_below B4.out).alloc _⟩, rfl⟩, ?_⟩
      refine wpList_app_run (v := VV) (u := .slice (some ⟨w4.heap.size, 0, none⟩) 1 1) rfl _ _ _ rfl rfl rfl HP.out ?_
      go_wp2_with fail
      have HON := Lib.hid ((Only.of_below B4.out).trans H5.out.2.2.1)
      refine thenQ_normal ⟨⟨⟨_, HON.out⟩, rfl⟩, ?_⟩
      repeat (first | go_big_quiet_step (fail) | refine wpQuiet_nil ?_)
      have h5 : Blk w5 l' 173 _ := XX.out.blk.only HON.out (fun hk => XX.out.s2 l' hk rfl)
      have k1 := h5.cell (j := 1) rfl
      have f1 := h5.fz 1
      clear h5 HP
      go_wp2_with fail
      refine thenQ_normal ⟨⟨⟨_, (HON.out.mono (fun k hk => .inr hk)).setCell (p := ⟨l', 1, none⟩) (.inl rfl) _⟩, rfl⟩, ?_⟩
      clear k1 f1
      go_wp2_with fail
      go_roundw
      case rel =>
        obtain ⟨hx, hg, hrow, hsl⟩ := HXX.out
        obtain ⟨hp1, hp2, hp3⟩ := XX.out.push (x := (A4, g.length, c4)) B4.out H4.out hrow.2 H5.out.1 H5.out.2.2.1 H5.out.2.2.2
        have hz := HB.out.size
        refine ⟨i + 1, by omega, by first | rfl | go_num, .slice A5 n5 c5, ov', vs' ++ [(A4, g.length, c4)], ?_, fun k hk => (hp3 k hk).elim (HFF.out k) (fun e => by omega), ?_⟩
        · rw [List.take_succ_eq_append_getElem hlt]
          have e : G[i] = g := by rw [List.getElem?_eq_getElem hlt] at hg; exact Option.some.inj hg
          rw [e]; exact hp1
        · exact HB.out.trans ⟨hp2.os, hp2.tape, hp2.output, hp2.size, fun k hk => hp2.block k (by omega) (fun hk2 => by have := HFF.out k hk2; omega)⟩
      case measure => simp [intOf]; omega
    · have hie : i = G.length := by omega
      subst hie
      have d1 : decide ((G.length : Int) < (vs.length : Int)) = false := decide_eq_false (by omega)
      rw [List.take_length] at hX
      have d2 : (G.length < vs.length) = False := eq_false (by omega)
      clear hlen
      go_wp2_with fail
      go_ret
      exact ⟨l', rfl, VV, ov', vs', hX, hF, hB⟩
end
end Go.Proofs.YtnbccoelbfgmgaaGreatDoor
/- buffer.Copy at a plain buffer. -/
namespace Go.Proofs.YtnbccoelbfgmgaaGreatDoor
open Go.RowKit Go.Lib
set_option linter.unusedVariables false
set_option linter.unusedSimpArgs false
section
variable {w' : World} {N b mm : Nat} {Fg Fl F : Nat → Prop} {T : Tx} {co nw pr ev : Int} {B : Nat}
theorem PB.parts {n0 n1 n2 n3 n4 t g st en m' mm' p o l : Nat} {fv gv ov : Value} {vs : List Sl3} {BB : List Int} (hP : PBd N b Fg Fl F mm T co nw B) (hN : N ≤ n0) (hsv : T.S.saved = .slice none 0 0)
    (blk : BufB w' n0 { T.S with t := t, m := m', p := p, o := o, l := l }) (gx : GapX w' t g fv BB st en T.cs) (gr : ∀ k, gapFoot t g fv k → n0 < k ∧ k < n1)
    (mk : Mk0 w' m' mm') (mr : n1 ≤ m' ∧ m' < n2 ∧ n1 ≤ mm' ∧ mm' < n2) (ps : Blk w' p 183 prC) (pR : n2 ≤ p ∧ p < n3) (os : Blk w' o 186 (ovC pr ev)) (oR : n3 ≤ o ∧ o < n4)
    (lx : LogX w' l gv ov vs T.G T.O T.ch co nw) (lr : ∀ k, logFoot l gv ov vs k → n4 ≤ k) (h0 : n0 < n1) (h1 : n1 ≤ n2) (h2 : n2 ≤ n3) (h3 : n3 ≤ n4) :
    PB N w' n0 (fun k => n0 ≤ k) { T with S := { T.S with t := t, m := m', p := p, o := o, l := l } } B := by
  refine ⟨gapFoot t g fv, logFoot l gv ov vs, mm', pr, ev, co, nw, ⟨blk, ⟨g, fv, BB, st, en, gx, fun k hk => hk⟩, ⟨gv, ov, vs, lx, fun k hk => hk⟩, mk, ps, os, hsv, fun k h1 h2 => ?_, ?_, ?_, ?_, fun k hk => gx.foot_lt hk, fun k hk => lx.foot_lt hk⟩, ?_⟩
  · have := gr k h1; have := lr k h2; omega
  · refine ⟨fun h => ?_, fun h => ?_, fun h => ?_, fun h => ?_, fun h => ?_⟩ <;> have := gr _ h <;> dsimp only at * <;> omega
  · refine ⟨fun h => ?_, fun h => ?_, fun h => ?_, fun h => ?_, fun h => ?_⟩ <;> have := lr _ h <;> dsimp only at * <;> omega
  · have hmm : m' ≠ m' ∨ True := .inr trivial
    dsimp only
    refine ⟨by omega, by omega, by omega, by omega, by omega, by omega, by omega, by omega, by omega⟩
  · refine ⟨⟨hN, fun k hk => by have := gr k hk; omega, fun k hk => by have := lr k hk; omega, by dsimp only; omega, by dsimp only; omega⟩, ⟨hP.sane.l1, hP.sane.lp, hP.sane.ph, hP.sane.hn, hP.sane.ma⟩, fun k hk => ?_, hP.o, hP.n0, hP.n1, hP.c0, hP.c1, hP.g, hP.nz, hP.tick, hP.logs⟩
    rcases hk with rfl | hk | hk | rfl | rfl | rfl | rfl
    · exact Nat.le_refl _
    · have := gr k hk; omega
    · have := lr k hk; omega
    all_goals dsimp only at *; omega
end
/-- A copy of a plain buffer: a buffer of the same state in new blocks. -/
def BCp (w : World) (N : Nat) (T : Tx) (B : Nat) (e : Ending) (w' : World) : Prop :=
  ∃ b' t m p o l, e = .returned (pAt b') ∧ w.heap.size ≤ b' ∧ PB N w' b' (fun k => w.heap.size ≤ k) { T with S := { T.S with t := t, m := m, p := p, o := o, l := l } } B ∧ Below w.heap.size w w'
section
variable {w : World} {N b B : Nat} {F : Nat → Prop} {T : Tx}
set_option maxRecDepth 100000 in
set_option maxHeartbeats 4000000 in
theorem bcopy_ok (h : PB N w b F T B) (hB : B ≤ 1000000) (hG : ∀ g ∈ T.G, g.length ≤ 1000000) : Calls Tryz.prog 46 #[pAt b] w (BCp w N T B) := by
  obtain ⟨Fg, Fl, mm, pr, ev, co, nw, hx, hd⟩ := h
  obtain ⟨g, fv, BB, st, en, hgx, hgf⟩ := hx.gap
  obtain ⟨gv, ov, vs, hlx, hlf⟩ := hx.log
  have HN := Lib.hid (bnoneB hx.blk)
  have HX := Lib.hid hx
  have HD := Lib.hid hd
  have HB0 := Lib.hid (below1 w (.cells (bufC T.S) 103))
  have HN0 : Hid (BufB (w.alloc (.cells (bufC T.S) 103)) w.heap.size T.S) := Lib.hid (Blk.made w _ _)
  have hz0 : (w.alloc (.cells (bufC T.S) 103)).heap.size = w.heap.size + 1 := by simp
  have HZ0 := Lib.hid hz0
  have HGG := Lib.hid hG
  have HBB := Lib.hid hB
  have hbl := hx.blk.lt
  have HBL := Lib.hid hbl
  obtain ⟨S, hS⟩ : ∃ S, S = T.S := ⟨_, rfl⟩
  have hblk := hx.blk
  have hsv := hx.sv
  have hmk := hx.mks
  have hpr := hx.prs
  have hov := hx.ovs
  rw [← hS] at hblk hsv hmk hpr hov hgx hlx
  have HG := Lib.hid hgx
  have HL := Lib.hid hlx
  have HM := Lib.hid hmk
  have HP := Lib.hid hpr
  have HO := Lib.hid hov
  clear hmk hpr hov
  obtain ⟨cs, hcs⟩ : ∃ cs : Array Value, cs = bufC S := ⟨_, rfl⟩
  have hi : (Tryz.prog.info? 103).map (·.size) = some cs.size := by rw [hcs]; kernel_rfl
  have h1 : cs.all (·.oneCell') = true := by rw [hcs]; simp [bufC, hsv, Value.oneCell']
  have hgb : w.heap[b]? = some (.cells cs 103 (0, 0)) := by rw [hcs]; exact hblk
  have h19 : cs.size = 19 := by rw [hcs]; rfl
  have HS := Lib.hid (⟨hS, hcs, hsv, hblk⟩ : _ ∧ _ ∧ _ ∧ _)
  clear hz0 hx hd hgx hlx hgf hlf hG hB hbl hblk hS hcs hsv HN0 HB0 HZ0
  go_enter Tryz.func46, Tryz.ntmps46
  go_wp2_with fail
  refine HN.out.mono ?_
  rintro e w' ⟨rfl, rfl⟩
  go_wp2_with (first | refine wpList_load_row rfl 103 _ rfl b rfl _ cs (0, 0) _ hgb Tryz.underlying103 rfl hi ?_ | refine wpList_store_row rfl 103 _ _ rfl w.heap.size cs rfl rfl _ _ (MapKept.heap_alloc w _).1 hi (by rw [h19]; rfl) h1 ?_)
  generalize hA : w.alloc (.cells _ 103) = WA
  obtain ⟨old, hold⟩ : ∃ old : Array Value, WA = w.alloc (.cells old 103) := ⟨_, hA.symm⟩
  clear hA
  have hb0 : Below w.heap.size w (WA.setRow w.heap.size cs) := below_setRow (hold ▸ below1 w _) (Nat.le_refl _) cs
  have hn0 : Blk (WA.setRow w.heap.size cs) w.heap.size 103 cs := setRow_heap _ _ old _ _ _ (by rw [hold]; exact (MapKept.heap_alloc w _).1)
  have hz0 : (WA.setRow w.heap.size cs).heap.size = w.heap.size + 1 := by rw [size_setRow, hold]; simp
  generalize WA.setRow w.heap.size cs = W at *
  clear hold
  obtain ⟨hS, hcs, hsv, hblk⟩ := HS.out
  subst hcs
  have B0 := Lib.hid hb0
  have N0 := Lib.hid hn0
  have Z0 := Lib.hid hz0
  have HB0 := (show BufB W b S from hblk.kept (hb0.block b HBL.out))
  have C9 : ∀ X : OnW (fun _ => False) W, X.w.cell? ⟨b, 9, none⟩ = some (pAt S.t) := fun X => (HB0.only X.on (fun hk => hk)).cell (j := 9) rfl
  have C10 : ∀ X : OnW (fun _ => False) W, X.w.cell? ⟨b, 10, none⟩ = some (pAt S.m) := fun X => (HB0.only X.on (fun hk => hk)).cell (j := 10) rfl
  have C11 : ∀ X : OnW (fun _ => False) W, X.w.cell? ⟨b, 11, none⟩ = some (pAt S.p) := fun X => (HB0.only X.on (fun hk => hk)).cell (j := 11) rfl
  have C12 : ∀ X : OnW (fun _ => False) W, X.w.cell? ⟨b, 12, none⟩ = some (pAt S.o) := fun X => (HB0.only X.on (fun hk => hk)).cell (j := 12) rfl
  have C13 : ∀ X : OnW (fun _ => False) W, X.w.cell? ⟨b, 13, none⟩ = some (pAt S.l) := fun X => (HB0.only X.on (fun hk => hk)).cell (j := 13) rfl
  clear hb0 hn0 hS hsv hblk hi h1 hgb h19 HB0 HN hz0
  rw [show ∀ (a : Act) (v : Value), Act.put a none v = a from fun _ _ => rfl]
  refine wp_region_mixS2 (fun _ => False) (fun k => k = w.heap.size) (fun k hk => hk.elim) [26, 28, 30, 32, 34] (.one [(0, true), (1, true), (2, true), (3, true), (5, false), (6, false), (7, false), (8, true), (10, false), (11, false), (12, false), (13, true), (15, false), (16, false), (17, false), (18, true), (20, false), (21, false), (22, false), (23, true)] 4 (.one [] 9 (.one [] 14 (.one [] 19 (.one [] 24 (.one [(25, true)] 26 (.one [(27, false)] 28 (.one [(29, false)] 30 (.one [(31, false)] 32 (.one [(33, false)] 34 (.done []))))))))))) (by kernel_rfl) (fun c d v a w h => by cases d <;> exact h) (by kernel_rfl) ?_
  simp only [wpMixS, wpQ2, pk_nil, pk_cons, pushAt_zero, pushAt_succ, List.contains_cons, List.contains_nil, Bool.false_or, Bool.or_false, Bool.true_or, Bool.or_true, Nat.reduceBEq, Nat.reduceEqDiff]
  repeat (first | go_big_quiet_step (fail) | refine wpQuiet_nil ?_)
  clear C9 C10 C11 C12 C13
  go_wp2_with fail
  refine (gcopy_ok (HG.out.up (B0.out.drew))).mono ?_
  rintro e w1 ⟨t', g', fv', rfl, hb1, hg1, hf1⟩
  have D1 := Lib.hid (show Below W.heap.size W w1 from (Below.refl _ W).drew.trans hb1)
  have G1 := Lib.hid (⟨hg1, hf1⟩ : _ ∧ _)
  clear hb1 hg1 hf1
  go_wp2_with fail
  refine thenQ_normal ⟨⟨⟨_, Only.of_below D1.out⟩, rfl⟩, ?_⟩
  go_wp2_with fail
  refine (mcopy0 (HM.out.up (up2 B0.out D1.out))).mono ?_
  rintro e w2 ⟨m', mm', rfl, hm1, hm2, hm3, hM2, hb2⟩
  have D2 := Lib.hid (up2 D1.out hb2)
  have E2 := Lib.hid hb2
  have M2 := Lib.hid (⟨hm1, hm2, hM2⟩ : _ ∧ _ ∧ _)
  clear hm1 hm2 hm3 hM2 hb2
  go_wp2_with fail
  refine thenQ_normal ⟨⟨⟨_, Only.of_below D2.out⟩, rfl⟩, ?_⟩
  go_wp2_with fail
  refine (pcopy0 (HP.out.up (up2 B0.out D2.out))).mono ?_
  rintro e w3 ⟨p', rfl, hp1, hp2, hb3⟩
  have D3 := Lib.hid (up2 D2.out hb3)
  have E3 := Lib.hid hb3
  have P3 := Lib.hid (⟨hp1, hp2⟩ : _ ∧ _)
  clear hp1 hp2 hb3
  go_wp2_with fail
  refine thenQ_normal ⟨⟨⟨_, Only.of_below D3.out⟩, rfl⟩, ?_⟩
  go_wp2_with fail
  refine (ocopy0 pr ev (HO.out.up (up2 B0.out D3.out))).mono ?_
  rintro e w4 ⟨o', rfl, ho1, ho2, hb4⟩
  have D4 := Lib.hid (up2 D3.out hb4)
  have E4 := Lib.hid hb4
  have O4 := Lib.hid (⟨ho1, ho2⟩ : _ ∧ _)
  clear ho1 ho2 hb4
  go_wp2_with fail
  refine thenQ_normal ⟨⟨⟨_, Only.of_below D4.out⟩, rfl⟩, ?_⟩
  go_wp2_with fail
  refine (lcopy_ok (HL.out.up (up2 B0.out D4.out)) (by have := HD.out.o; have := HBB.out; omega) (by have := HD.out.g; have := HBB.out; omega) HGG.out).mono ?_
  rintro e w5 ⟨l', rfl, gv', ov', vs', hl1, hl2, hb5⟩
  have D5 := Lib.hid (up2 D4.out hb5)
  have E5 := Lib.hid hb5
  have L5 := Lib.hid (⟨hl1, hl2⟩ : _ ∧ _)
  have hN5 : BufB w5 w.heap.size S := N0.out.up D5.out
  have hON : Only (fun k => k = w.heap.size) W w5 := Only.of_below D5.out
  have NN := Lib.hid hN5
  have k9 := hN5.cell (j := 9) rfl
  have k10 := hN5.cell (j := 10) rfl
  have k11 := hN5.cell (j := 11) rfl
  have k12 := hN5.cell (j := 12) rfl
  have k13 := hN5.cell (j := 13) rfl
  have f9 := hN5.fz 9
  have f10 := hN5.fz 10
  have f11 := hN5.fz 11
  have f12 := hN5.fz 12
  have f13 := hN5.fz 13
  have ON := Lib.hid hON
  clear hl1 hl2 hb5 hN5 hON
  go_wp2_with fail
  refine thenQ_normal ⟨⟨⟨_, Only.of_below D5.out⟩, rfl⟩, ?_⟩
  repeat (first | go_big_quiet_step (fail) | refine wpQuiet_nil ?_)
  go_wp2_with fail
  refine thenQ_normal ⟨⟨⟨_, ON.out.setCell (p := ⟨w.heap.size, 9, none⟩) rfl _⟩, rfl⟩, ?_⟩
  repeat (first | go_big_quiet_step (fail) | refine wpQuiet_nil ?_)
  go_wp2_with fail
  refine thenQ_normal ⟨⟨⟨_, (ON.out.setCell (p := ⟨w.heap.size, 9, none⟩) rfl _).setCell (p := ⟨w.heap.size, 10, none⟩) rfl _⟩, rfl⟩, ?_⟩
  repeat (first | go_big_quiet_step (fail) | refine wpQuiet_nil ?_)
  go_wp2_with fail
  refine thenQ_normal ⟨⟨⟨_, ((ON.out.setCell (p := ⟨w.heap.size, 9, none⟩) rfl _).setCell (p := ⟨w.heap.size, 10, none⟩) rfl _).setCell (p := ⟨w.heap.size, 11, none⟩) rfl _⟩, rfl⟩, ?_⟩
  repeat (first | go_big_quiet_step (fail) | refine wpQuiet_nil ?_)
  go_wp2_with fail
  refine thenQ_normal ⟨⟨⟨_, (((ON.out.setCell (p := ⟨w.heap.size, 9, none⟩) rfl _).setCell (p := ⟨w.heap.size, 10, none⟩) rfl _).setCell (p := ⟨w.heap.size, 11, none⟩) rfl _).setCell (p := ⟨w.heap.size, 12, none⟩) rfl _⟩, rfl⟩, ?_⟩
  repeat (first | go_big_quiet_step (fail) | refine wpQuiet_nil ?_)
  go_wp2_with fail
  refine thenQ_normal ⟨⟨⟨_, ((((ON.out.setCell (p := ⟨w.heap.size, 9, none⟩) rfl _).setCell (p := ⟨w.heap.size, 10, none⟩) rfl _).setCell (p := ⟨w.heap.size, 11, none⟩) rfl _).setCell (p := ⟨w.heap.size, 12, none⟩) rfl _).setCell (p := ⟨w.heap.size, 13, none⟩) rfl _⟩, rfl⟩, ?_⟩
  clear k9 k10 k11 k12 k13 f9 f10 f11 f12 f13
  have hfin : BufB (((((w5.setCell ⟨w.heap.size, 9, none⟩ (pAt t')).setCell ⟨w.heap.size, 10, none⟩ (pAt m')).setCell ⟨w.heap.size, 11, none⟩ (pAt p')).setCell ⟨w.heap.size, 12, none⟩ (pAt o')).setCell ⟨w.heap.size, 13, none⟩ (pAt l')) w.heap.size { S with t := t', m := m', p := p', o := o', l := l' } :=
    ((((NN.out.set (j := 9) (by simp) (pAt t')).set (j := 10) (by simp) (pAt m')).set (j := 11) (by simp) (pAt p')).set (j := 12) (by simp) (pAt o')).set (j := 13) (by simp) (pAt l')
  have hon5 : Only (fun k => k = w.heap.size) w5 (((((w5.setCell ⟨w.heap.size, 9, none⟩ (pAt t')).setCell ⟨w.heap.size, 10, none⟩ (pAt m')).setCell ⟨w.heap.size, 11, none⟩ (pAt p')).setCell ⟨w.heap.size, 12, none⟩ (pAt o')).setCell ⟨w.heap.size, 13, none⟩ (pAt l')) :=
    ((((((Only.refl (fun k => k = w.heap.size) w5).setCell (p := ⟨w.heap.size, 9, none⟩) rfl _).setCell (p := ⟨w.heap.size, 10, none⟩) rfl _).setCell (p := ⟨w.heap.size, 11, none⟩) rfl _).setCell (p := ⟨w.heap.size, 12, none⟩) rfl _).setCell (p := ⟨w.heap.size, 13, none⟩) rfl _)
  have hbW := fun (X : World) (h : Only (fun k => k = w.heap.size) w5 X) => (HS.out.2.2.2.kept ((up2 B0.out D5.out).block b HBL.out)).only h (fun e => by have := HBL.out; omega)
  generalize ((((w5.setCell ⟨w.heap.size, 9, none⟩ (pAt t')).setCell ⟨w.heap.size, 10, none⟩ (pAt m')).setCell ⟨w.heap.size, 11, none⟩ (pAt p')).setCell ⟨w.heap.size, 12, none⟩ (pAt o')).setCell ⟨w.heap.size, 13, none⟩ (pAt l') = W5 at *
  have c17 : W5.cell? ⟨b, 17, none⟩ = some (.slice none 0 0) := by rw [← HS.out.2.2.1]; exact (hbW W5 hon5).cell (j := 17) rfl
  have k17 : W5.cell? ⟨w.heap.size, 17, none⟩ = some (.slice none 0 0) := by rw [← HS.out.2.2.1]; exact hfin.cell (j := 17) rfl
  have f17 := hfin.fz 17
  have HFIN := Lib.hid hfin
  have HON5 := Lib.hid hon5
  clear hfin hon5 hbW ON NN
  go_wp2_with fail
  refine (cloneX0 0 _).mono ?_
  rintro e w' ⟨rfl, rfl⟩
  go_wp2_with fail
  go_ret
  obtain ⟨hS, _, hsv, _⟩ := HS.out
  subst hS
  have hz0 := Z0.out
  have hf2 : BufB (W5.setCell ⟨w.heap.size, 17, none⟩ (.slice none 0 0)) w.heap.size { T.S with t := t', m := m', p := p', o := o', l := l' } := by
    have := HFIN.out.set (j := 17) (by simp) (.slice none 0 0)
    have e : (bufC { T.S with t := t', m := m', p := p', o := o', l := l' }).set 17 (.slice none 0 0) (by simp) = bufC { T.S with t := t', m := m', p := p', o := o', l := l' } := by
      unfold bufC
      dsimp only
      rw [hsv]
      rfl
    rw [e] at this
    exact this
  have hO : Only (fun k => k = w.heap.size) w5 (W5.setCell ⟨w.heap.size, 17, none⟩ (.slice none 0 0)) := HON5.out.setCell (p := ⟨w.heap.size, 17, none⟩) rfl _
  have hd1 := D1.out.size
  have he2 := E2.out.size
  have he3 := E3.out.size
  have he4 := E4.out.size
  have hm2 := M2.out.2.2.lt
  have hp3 := P3.out.2.lt
  have ho4 := O4.out.2.lt
  have hgr : ∀ k, gapFoot t' g' fv' k → w.heap.size < k ∧ k < w1.heap.size := fun k hk => ⟨by have := G1.out.2 k hk; simp at this; omega, G1.out.1.foot_lt hk⟩
  have hlr : ∀ k, logFoot l' gv' ov' vs' k → w4.heap.size ≤ k := fun k hk => L5.out.2 k hk
  refine ⟨w.heap.size, t', m', p', o', l', rfl, Nat.le_refl _, ?_, ?_⟩
  · refine PB.parts (n1 := w1.heap.size) (n2 := w2.heap.size) (n3 := w3.heap.size) (n4 := w4.heap.size) HD.out (by have := HD.out.abv.b; have := HBL.out; omega) hsv hf2 (((((G1.out.1.up E2.out).up E3.out).up E4.out).up E5.out).only hO (fun k hk e => by have := (hgr k hk).1; omega)) hgr
      ((((M2.out.2.2.up E3.out).up E4.out).up E5.out).only hO (by have := M2.out.1; omega) (by have := M2.out.2.1; omega)) ⟨M2.out.1, hm2.1, M2.out.2.1, hm2.2⟩
      (((P3.out.2.up E4.out).up E5.out).only hO (by have := P3.out.1; omega)) ⟨P3.out.1, hp3⟩ ((O4.out.2.up E5.out).only hO (by have := O4.out.1; omega)) ⟨O4.out.1, ho4⟩
      (L5.out.1.only hO (fun k hk e => by have := hlr k hk; omega)) hlr (by omega) he2 he3 he4
  · have hB5 := up2 B0.out D5.out
    exact hB5.trans ⟨hO.os, hO.tape, hO.output, hO.size, fun k hk => hO.block k (by have := hB5.size; omega) (by omega)⟩
end
end Go.Proofs.YtnbccoelbfgmgaaGreatDoor
/- kill.erase: the walk; kill.Erase. -/
namespace Go.Proofs.YtnbccoelbfgmgaaGreatDoor
open Go.RowKit Go.Shelf Go.Lib
set_option linter.unusedVariables false
set_option linter.unusedSimpArgs false
/-! ### plain -/
theorem erF_cons (T : Tx) (r : Row3) (l : List Row3) (h : (erF T l).1 = 0) : erF T (r :: l) = (delE (erF T l).2 r.1 r.2.1, if delE (erF T l).2 r.1 r.2.1 = 0 then takeT (erF T l).2 r.1.toNat r.2.1.toNat else (erF T l).2) := by
  show (if (erF T l).1 = 0 then _ else _) = _
  rw [if_pos h]
theorem erF_bad (T : Tx) (r : Row3) (l : List Row3) (h : ¬ (erF T l).1 = 0) : erF T (r :: l) = erF T l := by
  show (if (erF T l).1 = 0 then _ else _) = _
  rw [if_neg h]
theorem erF_err (T : Tx) : ∀ (L : List Row3) (m : Nat), ¬ (erF T (L.drop m)).1 = 0 → erF T L = erF T (L.drop m)
  | L, 0, h => rfl
  | [], m + 1, h => rfl
  | r :: L, m + 1, h => by
    have e := erF_err T L m h
    rw [erF_bad T r L (by rw [e]; exact h), e]; rfl
theorem takeT_le (T : Tx) {x y : Nat} (h : x ≤ y) : (takeT T x y).cs.length ≤ T.cs.length := by
  rw [takeT_cs]; unfold delC; simp only [List.length_append, List.length_take, List.length_drop]; omega
theorem takeT_ro (T : Tx) (x y : Nat) : (takeT T x y).S.ro = T.S.ro := by unfold takeT; split <;> rfl
theorem delE_le {T : Tx} {x y : Int} (h : delE T x y = 0) : x ≤ y := (reach_of0 h).2.1
theorem erF_len (T : Tx) : ∀ L : List Row3, (erF T L).2.cs.length ≤ T.cs.length ∧ (erF T L).2.S.ro = T.S.ro
  | [] => ⟨Nat.le_refl _, rfl⟩
  | r :: L => by
    have ih := erF_len T L
    by_cases h : (erF T L).1 = 0
    · rw [erF_cons T r L h]
      dsimp only
      split
      · rename_i h0
        have := takeT_le (erF T L).2 (x := r.1.toNat) (y := r.2.1.toNat) (by have := delE_le h0; omega)
        exact ⟨by omega, (takeT_ro _ _ _).trans ih.2⟩
      · exact ih
    · rw [erF_bad T r L h]; exact ih
/-! ### the walk -/
/-- The blocks that may turn: the buffer's, and those made behind the frame. -/
def Fp (F : Nat → Prop) (n : Nat) : Nat → Prop := fun k => (F k ∧ k < n) ∨ n + 5 ≤ k
section
attribute [local go_sem] Oper.semAt_some
variable {w w' : World} {N b B : Nat} {F : Nat → Prop} {T : Tx} {L : List Row3} {A : Option Addr} {c : Nat}
theorem backward_ok (A : Option Addr) (n c : Nat) (w : World) : Calls Tryz.prog 88 #[.slice A n c] w fun e w' => e = .returned (.func (.func 134) #[] #[.pointer (some ⟨w.heap.size, 0, none⟩)]) ∧ w' = w.alloc (.cells #[.slice A n c] 72) := by
  go_enter Tryz.func88, Tryz.ntmps88
  go_wp2_with fail
  go_ret
  exact ⟨rfl, rfl⟩
theorem RSl.same {w w' : World} (h : RSl encRow w A L) (hs : w.heap.size ≤ w'.heap.size) (hk : ∀ g o z, A = some ⟨g, o, z⟩ → g < w.heap.size → w'.heap[g]? = w.heap[g]?) : RSl encRow w' A L := fun hp => by
  obtain ⟨g, o, rfl, hg, hc⟩ := h hp
  exact ⟨g, o, rfl, by omega, fun j u hu => (World.cell?_of_block (hk g o none rfl hg)).trans (hc j u hu)⟩
/-- Between two rounds. -/
structure ErI (N : Nat) (w : World) (b : Nat) (F : Nat → Prop) (T : Tx) (L : List Row3) (B n : Nat) (pre : List (Nat × Row3)) (W : World) : Prop where
  z : (erF T (L.drop (L.length - pre.length))).1 = 0
  pb : PB N W b (Fp F n) (erF T (L.drop (L.length - pre.length))).2 (B + pre.length * (T.cs.length + 4))
  bb : Blk W n 26 #[pAt b]
  rb : Blk W (n + 1) 23 #[.int .i64 0]
  on : Only (Fp F n) w W
  sz : n + 3 ≤ W.heap.size
structure ErX (N : Nat) (w : World) (b : Nat) (F : Nat → Prop) (T : Tx) (L : List Row3) (B n : Nat) (pre : List (Nat × Row3)) (W : World) : Prop where
  z : ¬ (erF T L).1 = 0
  pb : PB N W b (Fp F n) (erF T L).2 B
  rb : Blk W (n + 1) 23 #[.int .i64 (erF T L).1]
  on : Only (Fp F n) w W
theorem Fp.two {F : Nat → Prop} {n k : Nat} (hk : Fp F n k) : ¬ two (n + 3) k := by
  rintro (e | e) <;> rcases hk with hk | hk <;> omega
theorem two_only {w W W' : World} {F : Nat → Prop} {n : Nat} (hn : n = w.heap.size) (h : Only (Fp F n) w W) (k : Only (two (n + 3)) W W') : Only (Fp F n) w W' :=
  h.then k (fun i hi hlt => by rcases hi with e | e <;> omega)
theorem ErI.two {n : Nat} {pre : List (Nat × Row3)} {W W' : World} (hn : n = w.heap.size) (h : ErI N w b F T L B n pre W) (k : Only (two (n + 3)) W W') : ErI N w b F T L B n pre W' :=
  ⟨h.z, h.pb.only k (fun i hi => Fp.two hi), h.bb.only k (by rintro (e | e) <;> omega), h.rb.only k (by rintro (e | e) <;> omega), two_only hn h.on k, Nat.le_trans h.sz k.size⟩
theorem ErI.up {n : Nat} {pre : List (Nat × Row3)} {W W' : World} (hn : n = w.heap.size) (h : ErI N w b F T L B n pre W) (k : Below W.heap.size W W') : ErI N w b F T L B n pre W' :=
  ⟨h.z, h.pb.up k, h.bb.up k, h.rb.up k, h.on.trans (Only.of_below k), Nat.le_trans h.sz k.size⟩
theorem ErX.two {n : Nat} {pre : List (Nat × Row3)} {W W' : World} (hn : n = w.heap.size) (h : ErX N w b F T L B n pre W) (k : Only (two (n + 3)) W W') : ErX N w b F T L B n pre W' :=
  ⟨h.z, h.pb.only k (fun i hi => Fp.two hi), h.rb.only k (by rintro (e | e) <;> omega), two_only hn h.on k⟩
set_option maxRecDepth 100000 in
set_option maxHeartbeats 8000000 in
theorem erase_ok (hT : Tabs N w) (hR : Rules N w) (h : PB N w b F T B) (hF : edF N F) (hro : T.S.ro = false) (hl : L.length ≤ 1000) (hB : B + L.length * (T.cs.length + 4) ≤ 890000) (hL : RSl encRow w A L) (hA : ∀ g o z, A = some ⟨g, o, z⟩ → g < w.heap.size → ¬ F g) :
    Calls Tryz.prog 45 #[pAt b, .slice A L.length c] w fun e w' => e = .returned (.int .i64 (erF T L).1) ∧ Only F w w' ∧ PB N w' b (grow F w.heap.size) (erF T L).2 (B + L.length * (T.cs.length + 4)) := by
  have HTT := Lib.hid hT
  have HRR := Lib.hid hR
  have HPB := Lib.hid h
  have HF := Lib.hid hF
  have HRO := Lib.hid hro
  have HLL := Lib.hid hl
  have HB := Lib.hid hB
  have HL := Lib.hid hL
  have HA := Lib.hid hA
  have HN := Lib.hid h.nN
  have hinF := h.inF
  have HIN := Lib.hid hinF
  have HBW := fun w' => Lib.hid (backward_ok A L.length c w')
  clear hT hR h hF hro hl hB hL hA hinF
  refine (callsIn_wide (n := 6)).1 ?_
  refine callsIn_of_wp_marks Tryz.func45 rfl trivial ?_ rfl
  simp only [Tryz.ntmps45, List.size_toArray, List.length_cons, List.length_nil, Nat.reduceAdd, Nat.reduceSub, Array.replicate_succ, Array.replicate_zero, List.push_toArray, List.append_toArray, List.nil_append, List.cons_append]
  gi_wp2_with fail
  have q0 := Blk.made w 26 #[pAt b]
  have q1 := Blk.made (w.alloc (.cells #[pAt b] 26)) 23 #[.int .i64 0]
  rw [World.size_alloc] at q1
  have q2 := q0.up (below1 _ (.cells #[.int .i64 0] 23))
  have qb : Below w.heap.size w ((w.alloc (.cells #[pAt b] 26)).alloc (.cells #[.int .i64 0] 23)) := up2 (below1 _ _) (below1 _ _)
  have qz : ((w.alloc (.cells #[pAt b] 26)).alloc (.cells #[.int .i64 0] 23)).heap.size = w.heap.size + 2 := by simp
  clear q0
  generalize (w.alloc (.cells #[pAt b] 26)).alloc (.cells #[.int .i64 0] 23) = W0 at *
  refine ⟨trivial, (callsIn_wide.2 (HBW W0).out).mono ?_⟩
  rintro e w3 ⟨rfl, hw3⟩
  have hbs := Blk.made W0 72 #[.slice A L.length c]
  have hbx := below1 W0 (.cells #[.slice A L.length c] 72)
  have hzx : (W0.alloc (.cells #[.slice A L.length c] 72)).heap.size = W0.heap.size + 1 := by simp
  rw [← hw3] at hbs hbx hzx
  clear hw3
  have HQ2 := Lib.hid (q2.up hbx)
  have HQ1 := Lib.hid (q1.up hbx)
  have HBS := Lib.hid hbs
  have B3 := Lib.hid (up2 qb hbx)
  have HZ := Lib.hid (show w3.heap.size = w.heap.size + 3 by rw [hzx, qz])
  have HZ0 := Lib.hid qz
  clear hbs hbx hzx q1 q2 qb qz
  gi_wp2_with fail
  obtain ⟨n, hn⟩ : ∃ n, n = w.heap.size := ⟨_, rfl⟩
  have HNN := Lib.hid hn
  rw [← hn] at HQ2 HQ1 HZ
  have hz0 := HZ0.out
  rw [← hn] at hz0
  rw [hz0] at HBS ⊢
  clear hz0 hn
  have hz3 := HZ.out
  have hI0 : ErI N w b F T L B n [] w3 := ⟨by simp [erF], by
      have : PB N w3 b (Fp F n) T B := by
        have h1 := (HPB.out.bound).up B3.out
        exact h1.mono (fun k hk => .inl ⟨hk.1, by rw [HNN.out]; exact hk.2⟩) (Nat.le_refl _)
      simpa [erF] using this, HQ2.out, HQ1.out, Only.of_below B3.out, by omega⟩
  have HI0 := Lib.hid hI0
  clear hI0
  refine wpIn_range_out rfl (by omega) (gf := 134) (lb := #[.pointer (some ⟨n + 2, 0, none⟩)]) rfl trivial (enters_of Tryz.func134 (by kernel_rfl) rfl)
    (back_seq 5 (n + 2) L A c (by have := HLL.out; omega) (KpOut (fun k => F k ∧ k < n) (n + 3)) w3 KpOut.trans
      (fun W hW => (HBS.out.kept (hW.1 (n + 2) (by omega) (by omega))).cell (j := 0) rfl)
      (fun W hW => (HL.out.up B3.out).same hW.2 (fun g o z e hg => by
        by_cases hgn : g < n + 3
        · exact hW.1 g hgn (fun q => HA.out g o z e (by have := HNN.out; omega) q.1)
        · omega)))
    KpOut.trans (fun W l o hlo => KpOut.put (by omega)) (KpOut.refl _ _ _) (fun W W' hW hbl => KpOut.below hbl (by omega)) (fun _ => rfl)
    (ErI N w b F T L B n) (ErX N w b F T L (B + L.length * (T.cs.length + 4)) n)
    (fun pre W W' hi ho => by rw [hz3] at ho; exact hi.two HNN.out ho)
    (fun pre W W' hi ho => by rw [hz3] at ho; exact hi.two HNN.out ho) (fun pre W W' hi hbl => hi.up HNN.out hbl) HI0.out
    (fun x v W => Blk W v 76 #[.int .i64 x.2.1, .int .i64 x.2.2.1, .int .i64 x.2.2.2]) (fun x v W W' h hk => h.kept hk) ?fr ?assign ?body ?done ?stop
  case assign =>
    intro l x v W K hv hK
    gi_wp2
    rw [← hv]
    exact hK _ (below1 _ _) (hv ▸ Blk.made _ _ _)
  case body =>
    rintro l pre x v W hI hv hpre hsv hsz
    rw [hz3] at hsv hsz ⊢
    have HI := Lib.hid hI
    have hple : (pre ++ [x]).length ≤ L.length := by
      have := hpre.length_le; rwa [backTo_length] at this
    have hpt : pre ++ [x] = backTo L (pre.length + 1) := by
      have h1 := List.prefix_iff_eq_take.1 hpre
      have h2 := List.prefix_iff_eq_take.1 (backTo_prefix L (pre.length + 1) L.length (by simpa using hple))
      rw [backTo_length] at h2
      rw [h1, h2]; simp
    simp only [List.length_append, List.length_cons, List.length_nil] at hple
    rw [backTo_succ] at hpt
    have hx : x = (L.length - 1 - pre.length, L.getD (L.length - 1 - pre.length) (0, 0, 0)) := by
      have := congrArg List.getLast? hpt
      simpa using this
    obtain ⟨m, hm⟩ : ∃ m, m = L.length - 1 - pre.length := ⟨_, rfl⟩
    rw [← hm] at hx
    obtain ⟨z, hz⟩ : ∃ z, L[m]? = some z := ⟨_, List.getElem?_eq_getElem (by omega)⟩
    rw [List.getD_eq_getElem?_getD, hz, Option.getD_some] at hx
    have hdm : L.drop m = z :: L.drop (m + 1) := by
      obtain ⟨hlt, e⟩ := List.getElem?_eq_some_iff.1 hz
      rw [List.drop_eq_getElem_cons hlt, e]
    have hm1 : L.length - pre.length = m + 1 := by omega
    have hm2 : L.length - (pre ++ [x]).length = m := by simp; omega
    have hiz := hI.z
    have hip := hI.pb
    rw [hm1] at hiz hip
    obtain ⟨T1, hT1⟩ : ∃ T1, T1 = (erF T (L.drop (m + 1))).2 := ⟨_, rfl⟩
    have hst := erF_cons T z (L.drop (m + 1)) hiz
    rw [← hdm, ← hT1] at hst
    have hln := erF_len T (L.drop (m + 1))
    rw [← hT1] at hip hln
    obtain ⟨z0, z1, z2⟩ := z
    subst hx
    dsimp only at hst
    have HST := Lib.hid hst
    have HIP := Lib.hid hip
    have HLN := Lib.hid hln
    have HPT := Lib.hid (⟨hm1, hm2, hple⟩ : _ ∧ _ ∧ _)
    have HSZ := Lib.hid hsz
    have c0 : W.cell? ⟨w.heap.size, 0, none⟩ = some (pAt b) := HNN.out ▸ hI.bb.cell (j := 0) rfl
    have v0 : W.cell? ⟨v, 0, none⟩ = some (.int .i64 z0) := hv.cell (j := 0) rfl
    have v1 : W.cell? ⟨v, 1, none⟩ = some (.int .i64 z1) := hv.cell (j := 1) rfl
    have HPRE := Lib.hid hpre
    have HT1 := Lib.hid hT1
    have HSV := Lib.hid hsv
    clear hst hip hln hI hpre hsz hdm hz hm hpt hm1 hm2 hple hT1 hiz hv hsv
    have hTw := Tabs.only HTT.out HI.out.on (fun k hk => by
      rcases hk with hk | hk
      · exact HF.out k hk.1
      · have := HN.out; have := HNN.out; omega)
    have hRw := Rules.only HRR.out HI.out.on (fun k hk => by
      rcases hk with hk | hk
      · exact HF.out k hk.1
      · have := HN.out; have := HNN.out; omega)
    have hFp : edF N (Fp F n) := fun k hk => by
      rcases hk with hk | hk
      · exact HF.out k hk.1
      · have := HN.out; have := HNN.out; omega
    have hbd : B + pre.length * (T.cs.length + 4) + (T.cs.length + 4) ≤ B + L.length * (T.cs.length + 4) := by
      have h1 := HPT.out.2.2
      have h2 : (pre.length + 1) * (T.cs.length + 4) ≤ L.length * (T.cs.length + 4) := Nat.mul_le_mul_right _ (by omega)
      rw [Nat.add_mul, Nat.one_mul] at h2; omega
    have HBD := Lib.hid hbd
    have HFP := Lib.hid hFp
    have HD := Lib.hid (bDelete hTw hRw HIP.out hFp (by have := HB.out; omega) (HLN.out.2.trans HRO.out) z0 z1)
    clear hTw hRw hFp hbd
    gi_wp2_with fail
    refine ⟨trivial, (CallsIn.inRound l (callsIn_wide.2 HD.out)).mono ?_⟩
    rintro e w5 ⟨rfl, ho5, hp5⟩
    have hz5 : W.heap.size ≤ w5.heap.size := ho5.size
    have hI5 := HI.out
    have hsn := HSZ.out
    have b5 := hI5.bb.only ho5 (by rintro (q | q) <;> omega)
    have r5 := hI5.rb.only ho5 (by rintro (q | q) <;> omega)
    have o5 := hI5.on.trans ho5
    have k0 : w5.heap[n + 3]? = W.heap[n + 3]? := ho5.block _ (by omega) (by rintro (q | q) <;> omega)
    have k1 : w5.heap[n + 3 + 1]? = W.heap[n + 3 + 1]? := ho5.block _ (by omega) (by rintro (q | q) <;> omega)
    have p5 := hp5.mono (F' := Fp F n) (fun k hk => hk.elim id (fun q => .inr (by omega))) (Nat.le_refl _)
    have B5 := Lib.hid b5
    have R5 := Lib.hid r5
    have O5 := Lib.hid o5
    have K5 := Lib.hid (⟨k0, k1⟩ : _ ∧ _)
    have P5 := Lib.hid p5
    have Z5 := Lib.hid hz5
    have KP := Lib.hid (KpOut.only (S := fun k => F k ∧ k < n) (n := n + 3) ho5 (by omega) (fun k hk hq => hq.elim id (fun q => by omega)))
    have c5 : w5.cell? ⟨w.heap.size, 0, none⟩ = some (pAt b) := HNN.out ▸ b5.cell (j := 0) rfl
    clear hI5 hsn b5 r5 o5 k0 k1 p5 hz5 ho5 hp5 c0 v0 v1
    by_cases hE : delE T1 z0 z1 = 0
    · have e2 : (delE T1 z0 z1 = 0) = True := eq_true hE
      have e1 : (delE T1 z0 z1 == 0) = true := by rw [hE]; rfl
      have HE := Lib.hid hE
      obtain ⟨E, hEE⟩ : ∃ E, E = delE T1 z0 z1 := ⟨_, rfl⟩
      rw [← hEE] at e1 e2 hE ⊢
      subst hE
      clear e1 e2
      gi_wp2_with fail
      refine ⟨K5.out, KP.out, ?_, ?_, B5.out, R5.out, O5.out, by have := Z5.out; have := HSZ.out; omega⟩
      · rw [HPT.out.2.1, HST.out]; exact HE.out
      · have := P5.out
        rw [if_pos HE.out] at this
        rw [HPT.out.2.1, HST.out]
        dsimp only
        rw [if_pos HE.out]
        refine this.mono (fun k hk => hk) ?_
        have := HLN.out.1
        simp only [List.length_append, List.length_cons, List.length_nil]
        rw [Nat.add_mul, Nat.one_mul]; omega
    · have HE := Lib.hid hE
      obtain ⟨E, hEE⟩ : ∃ E, E = delE T1 z0 z1 := ⟨_, rfl⟩
      rw [← hEE] at hE ⊢
      have e2 : (E = 0) = False := eq_false hE
      have e1 : (E == 0) = false := by simpa using hE
      have HEE := Lib.hid hEE
      clear hE hEE
      have d5 : w5.cell? ⟨w.heap.size + 1, 0, none⟩ = some (.int .i64 0) := HNN.out ▸ R5.out.cell (j := 0) rfl
      have f5 : w5.frozen? ⟨w.heap.size + 1, 0, none⟩ = false := HNN.out ▸ R5.out.fz 0
      gi_wp2_with fail
      rw [← HNN.out]
      have hE0 : ¬ E = 0 := by rw [HEE.out]; exact HE.out
      have hst := HST.out
      rw [← HEE.out, if_neg hE0] at hst
      have herr := erF_err T L m (by rw [hst]; exact hE0)
      rw [hst] at herr
      have hP := P5.out
      rw [if_neg HE.out] at hP
      have hset : Only (fun k => k = n + 1) w5 (w5.setCell ⟨n + 1, 0, none⟩ (.int .i64 E)) := (Only.refl (fun k => k = n + 1) w5).setCell (p := ⟨n + 1, 0, none⟩) rfl _
      refine ⟨⟨(Below.heap_setCell _ _ _ _ (by show n + 3 ≠ n + 1; omega)).trans K5.out.1, (Below.heap_setCell _ _ _ _ (by show n + 3 + 1 ≠ n + 1; omega)).trans K5.out.2⟩, ?_, ?_, ?_, ?_⟩
      · rw [herr]; exact hE0
      · rw [herr]
        refine (hP.only hset (fun k hk e => by rcases hk with q | q <;> omega)).mono (fun k hk => hk) ?_
        have := HBD.out; have := HLN.out.1; omega
      · rw [herr]
        exact R5.out.set (j := 0) (by simp) (.int .i64 E)
      · exact O5.out.then hset (fun k hk hlt => by have := HNN.out; omega)
  case done =>
    rintro D W hD hI hK
    rw [hz3] at hD
    have hpl := backTo_length L L.length
    have hz0 := hI.z
    have hpb := hI.pb
    rw [hpl, Nat.sub_self, List.drop_zero] at hz0 hpb
    have HZ0 := Lib.hid hz0
    have HPB1 := Lib.hid hpb
    have HK := Lib.hid hK
    have HO := Lib.hid hI.on
    have HR1 := Lib.hid hI.rb
    have HSZ := Lib.hid hI.sz
    have d5 : W.cell? ⟨w.heap.size + 1, 0, none⟩ = some (.int .i64 0) := HNN.out ▸ hI.rb.cell (j := 0) rfl
    have f5 : W.frozen? ⟨w.heap.size + 1, 0, none⟩ = false := HNN.out ▸ hI.rb.fz 0
    clear hpl hz0 hpb hI hK
    gi_wp2_with fail
    obtain ⟨W2, hW2⟩ : ∃ W2, W.setCell ⟨w.heap.size + 1, 0, none⟩ (.int .i64 0) = W2 := ⟨_, rfl⟩
    have hset : Only (fun k => k = n + 1) W W2 := by rw [← hW2, ← HNN.out]; exact (Only.refl (fun k => k = n + 1) W).setCell (p := ⟨n + 1, 0, none⟩) rfl _
    have hR2 : Blk W2 (n + 1) 23 #[.int .i64 0] := by rw [← hW2, ← HNN.out]; exact HR1.out.set (j := 0) (by simp) (.int .i64 0)
    have hK2 : W2.heap[D]? = some (.deferred (some [])) := (hset.block D (by have := (Array.getElem?_eq_some_iff.1 HK.out).1; exact this) (by omega)).trans HK.out
    rw [hW2]
    clear hW2
    refine ⟨by simp, .inl ⟨_, _, rfl, run_takeDeferred hK2, ?_⟩⟩
    have hput : Only (two (n + 3)) W2 (W2.putObj D (.deferred none)) := Only.putTwo (.inl hD)
    have i1 : (W2.putObj D (.deferred none)).cell? ⟨w.heap.size + 1, 0, none⟩ = some (.int .i64 0) := HNN.out ▸ (hR2.only hput (by rintro (q | q) <;> omega)).cell (j := 0) rfl
    refine ⟨.int .i64 0, ?_, by rw [HZ0.out], ?_, ?_⟩
    · simp [results, Tryz.f45, go_sem, i1]
    · have hnn := HNN.out
      refine (((Only.refl F w).then HO.out (fun i hi hlt => hi.elim (fun q => q.1) (fun q => by omega))).then hset (fun i hi hlt => by omega)).then hput (fun i hi hlt => by rcases hi with q | q <;> omega)
    · have hnn := HNN.out
      exact ((HPB1.out.only hset (fun k hk e => by rcases hk with q | q <;> omega)).only hput (fun k hk => Fp.two hk)).mono (fun k hk => hk.elim (fun q => .inl q.1) (fun q => .inr (by omega))) (Nat.le_refl _)
  case stop =>
    rintro D pre W hD hpre hI hK
    rw [hz3] at hD
    have HZ0 := Lib.hid hI.z
    have HPB1 := Lib.hid hI.pb
    have HK := Lib.hid hK
    have HO := Lib.hid hI.on
    have HR1 := Lib.hid hI.rb
    have d5 : W.cell? ⟨w.heap.size + 1, 0, none⟩ = some (.int .i64 (erF T L).1) := HNN.out ▸ hI.rb.cell (j := 0) rfl
    clear hI hK hpre
    gi_wp2_with fail
    refine ⟨by simp, .inl ⟨_, _, rfl, run_takeDeferred HK.out, ?_⟩⟩
    have hput : Only (two (n + 3)) W (W.putObj D (.deferred none)) := Only.putTwo (.inl hD)
    have i1 : (W.putObj D (.deferred none)).cell? ⟨w.heap.size + 1, 0, none⟩ = some (.int .i64 (erF T L).1) := HNN.out ▸ (HR1.out.only hput (by rintro (q | q) <;> omega)).cell (j := 0) rfl
    refine ⟨.int .i64 (erF T L).1, ?_, rfl, ?_, ?_⟩
    · simp [results, Tryz.f45, go_sem, i1]
    · have hnn := HNN.out
      refine ((Only.refl F w).then HO.out (fun i hi hlt => hi.elim (fun q => q.1) (fun q => by omega))).then hput (fun i hi hlt => by rcases hi with q | q <;> omega)
    · have hnn := HNN.out
      exact (HPB1.out.only hput (fun k hk => Fp.two hk)).mono (fun k hk => hk.elim (fun q => .inl q.1) (fun q => .inr (by omega))) (Nat.le_refl _)
end
end Go.Proofs.YtnbccoelbfgmgaaGreatDoor
/- kill.Cut: the walk. -/
namespace Go.Proofs.YtnbccoelbfgmgaaGreatDoor
open Go.RowKit Go.Lib
set_option linter.unusedVariables false
set_option linter.unusedSimpArgs false
abbrev encStr (s : ByteArray) : List Value := [.string s]
theorem eltStr : Elt encStr 34 9 1 16 (.string ⟨#[]⟩) := ⟨Tryz.underlying34, by kernel_rfl, rfl, by omega, fun _ => rfl, fun x u hu => by simp at hu; subst hu; rfl⟩
/-- A row as it is cut. -/
def cutS (T : Tx) (r : Row3) : ByteArray := textV T r.1 r.2.1 ++ repB 32 r.2.2.toNat
/-- How many characters the rows have. -/
def manyR (R : List Row3) : Int := (R.map fun r => r.2.1 - r.1 + r.2.2).sum
/-- Rows within bounds. -/
def RowsB (R : List Row3) : Prop := R.length ≤ 1000 ∧ ∀ r ∈ R, 0 ≤ r.1 ∧ r.1 ≤ r.2.1 ∧ r.2.1 ≤ 70000 ∧ 0 ≤ r.2.2 ∧ r.2.2 ≤ 900000
theorem manyR_take (R : List Row3) (h : RowsB R) : ∀ i, i ≤ R.length → 0 ≤ manyR (R.take i) ∧ manyR (R.take i) ≤ 970000 * i
  | 0, _ => by simp [manyR]
  | i + 1, hi => by
    have ih := manyR_take R h i (by omega)
    obtain ⟨z, hz⟩ : ∃ z, R[i]? = some z := ⟨_, List.getElem?_eq_getElem (by omega)⟩
    have hb := h.2 z (List.mem_of_getElem? hz)
    have e : manyR (R.take (i + 1)) = manyR (R.take i) + (z.2.1 - z.1 + z.2.2) := by
      unfold manyR
      rw [List.take_add_one, hz, List.map_append, List.sum_append]; simp
    rw [e]; omega
theorem manyR_step (R : List Row3) {i : Nat} {z : Row3} (hz : R[i]? = some z) : manyR (R.take (i + 1)) = manyR (R.take i) + (z.2.1 - z.1 + z.2.2) := by
  unfold manyR
  rw [List.take_add_one, hz, List.map_append, List.sum_append]; simp
theorem textV_size {N : Nat} {w : World} {b : Nat} {F : Nat → Prop} {T : Tx} {B : Nat} (h : PB N w b F T B) (x y : Int) : (textV T x y).size ≤ 262144 := by
  unfold textV
  split
  · have h1 := encS_le (subL T.cs x.toNat y.toNat)
    have h2 := h.le
    have h3 : (subL T.cs x.toNat y.toNat).length ≤ T.cs.length := by unfold subL; simp only [List.length_take, List.length_drop]; omega
    omega
  · simp [ByteArray.size]
/-- What Cut answers. -/
def CutP (w : World) (T : Tx) (R : List Row3) (e : Ending) (w' : World) : Prop :=
  if 65536 < manyR R then e = .returned (.tuple #[.slice none 0 0, .int .i64 4]) ∧ Below w.heap.size w w'
  else ∃ v, e = .returned (.tuple #[v, .int .i64 0]) ∧ ROwn encStr 9 1 w.heap.size w' v (R.map (cutS T)) ∧ Below w.heap.size w w'
section
variable {w : World} {N b B : Nat} {F : Nat → Prop} {T : Tx} {R : List Row3}
set_option maxRecDepth 100000 in
set_option maxHeartbeats 8000000 in
theorem cut_ok (h : PB N w b F T B) (x y tab : Int) (hR : ∀ w', Below w.heap.size w w' → Calls Tryz.prog 42 #[pAt b, .int .i64 x, .int .i64 y, .int .i64 tab] w' (RowsP w' R)) (hb : RowsB R) :
    Calls Tryz.prog 11 #[pAt b, .int .i64 x, .int .i64 y, .int .i64 tab] w (CutP w T R) := by
  have HR := Lib.hid (hR w (Below.refl _ w))
  have H := Lib.hid h
  have HB := Lib.hid hb
  have hlen := hb.1
  have HLEN := Lib.hid hlen
  clear hR h hb hlen
  go_enter Tryz.func11, Tryz.ntmps11
  go_wp2_with fail
  refine HR.out.mono ?_
  rintro e w1 ⟨v, rfl, hown, hb1⟩
  obtain ⟨A, cp, rfl, _, _, hrs⟩ := hown.shape eltRow
  have HRS := Lib.hid hrs
  have B1 := Lib.hid hb1
  clear hown hrs hb1
  go_wp2_with fail
  go_loopw [12, 33] (fun va vb wr => ∃ i : Nat, i ≤ R.length ∧ va = .int .i64 (manyR (R.take i)) ∧ vb = .int .i64 i ∧ Below w1.heap.size w1 wr) (fun _ vb _ => int2 vb (.int .i64 R.length))
  case atStart => exact ⟨0, Nat.zero_le _, by simp [manyR], rfl, Below.refl _ _⟩
  case round =>
    obtain ⟨i, hi, rfl, rfl, hbel⟩ := hrel
    have HBE := Lib.hid hbel
    have hlen := HLEN.out
    by_cases hlt : i < R.length
    · have d1 : decide ((i : Int) < (R.length : Int)) = true := decide_eq_true (by omega)
      have d2 : (i < R.length) = True := eq_true hlt
      have hlt2 : (i : Int) < R.length := by omega
      have s1 : IntKind.i64.wrap ((i : Int) + 1) = ((i + 1 : Nat) : Int) := by rw [IntWalk.i64_in _ (by omega)]; omega
      obtain ⟨z, hz⟩ : ∃ z, R[i]? = some z := ⟨_, List.getElem?_eq_getElem hlt⟩
      have hzb := HB.out.2 z (List.mem_of_getElem? hz)
      have hmt := manyR_take R HB.out i (by omega)
      have hst := manyR_step R hz
      obtain ⟨g, o, rfl, hg, hcg⟩ := (HRS.out.up hbel).at_ eltRow hz
      have k0 := hcg 0 _ rfl
      have k1 := hcg 1 _ rfl
      have k2 := hcg 2 _ rfl
      simp only [Nat.add_zero] at k0
      rw [← Nat.add_assoc] at k1 k2
      obtain ⟨z0, z1, z2⟩ := z
      simp only at k0 k1 k2 hzb hst
      obtain ⟨S, hS⟩ : ∃ S, S = manyR (R.take i) := ⟨_, rfl⟩
      rw [← hS] at hmt hst ⊢
      have s2 : IntKind.i64.wrap (z1 - z0) = z1 - z0 := IntWalk.i64_in _ (by omega)
      have s3 : IntKind.i64.wrap (z1 - z0 + z2) = z1 - z0 + z2 := IntWalk.i64_in _ (by omega)
      have s4 : IntKind.i64.wrap (S + (z1 - z0 + z2)) = S + (z1 - z0 + z2) := IntWalk.i64_in _ (by omega)
      have HST := Lib.hid hst
      have HII := Lib.hid hlt
      have HAL := Lib.hid (below1 wr (.cells #[.int .i64 z0, .int .i64 z1, .int .i64 z2] 76))
      clear hcg hz hzb hmt hst hS hbel hi hlen hlt
      go_wp2_with fail
      go_roundw
      case rel => exact ⟨i + 1, by have := HII.out; omega, by rw [HST.out], rfl, up2 HBE.out HAL.out⟩
      case measure => have := HII.out; simp [int2]; omega
    · obtain rfl : i = R.length := by omega
      have d1 : decide ((R.length : Int) < (R.length : Int)) = false := decide_eq_false (by omega)
      rw [List.take_of_length_le (Nat.le_refl _)]
      have hmt := manyR_take R HB.out R.length (Nat.le_refl _)
      rw [List.take_of_length_le (Nat.le_refl _)] at hmt
      have B2 := Lib.hid (up2 B1.out hbel)
      have RS2 := Lib.hid (HRS.out.up hbel)
      clear hbel HBE HRS B1
      by_cases hmany : 65536 < manyR R
      · have HM := Lib.hid hmany
        obtain ⟨S, hS⟩ : ∃ S, S = manyR R := ⟨_, rfl⟩
        rw [← hS] at hmany ⊢
        have d3 : decide ((65536 : Int) < S) = true := decide_eq_true hmany
        clear hS hmt hi hlen
        go_wp2_with fail
        go_ret2
        unfold CutP
        rw [if_pos HM.out]
        exact ⟨rfl, B2.out⟩
      · have HM := Lib.hid hmany
        obtain ⟨S, hS⟩ : ∃ S, S = manyR R := ⟨_, rfl⟩
        rw [← hS] at hmany ⊢
        have d3 : decide ((65536 : Int) < S) = false := decide_eq_false hmany
        have d4 : (65536 < S) = False := eq_false hmany
        clear hS hmt hi hlen hmany
        go_wp2_with fail
        have hlen := HLEN.out
        obtain ⟨wA, rfl⟩ : ∃ x, x = wr := ⟨_, rfl⟩
        go_loopw [15, 52] (fun va vb wr2 => ∃ i : Nat, i ≤ R.length ∧ ROwn encStr 9 1 wA.heap.size wr2 va ((R.take i).map (cutS T)) ∧ vb = .int .i64 i ∧ Below wA.heap.size wA wr2) (fun _ vb _ => int2 vb (.int .i64 R.length))
        case atStart => exact ⟨0, Nat.zero_le _, ROwn.nil _ _, rfl, Below.refl _ _⟩
        case round =>
          obtain ⟨i, hi, hown, rfl, hbel⟩ := hrel
          have HBE := Lib.hid hbel
          have HOW := Lib.hid hown
          have hlen := HLEN.out
          by_cases hlt : i < R.length
          · have d1 : decide ((i : Int) < (R.length : Int)) = true := decide_eq_true (by omega)
            have d2 : (i < R.length) = True := eq_true hlt
            have hlt2 : (i : Int) < R.length := by omega
            have s1 : IntKind.i64.wrap ((i : Int) + 1) = ((i + 1 : Nat) : Int) := by rw [IntWalk.i64_in _ (by omega)]; omega
            obtain ⟨z, hz⟩ : ∃ z, R[i]? = some z := ⟨_, List.getElem?_eq_getElem hlt⟩
            have hzb := HB.out.2 z (List.mem_of_getElem? hz)
            obtain ⟨g, o, rfl, hg, hcg⟩ := (RS2.out.up hbel).at_ eltRow hz
            have k0 := hcg 0 _ rfl
            have k1 := hcg 1 _ rfl
            have k2 := hcg 2 _ rfl
            simp only [Nat.add_zero] at k0
            rw [← Nat.add_assoc] at k1 k2
            have hcut : (R.take i).map (cutS T) ++ [cutS T z] = (R.take (i + 1)).map (cutS T) := by
              rw [List.take_add_one, hz, List.map_append]; rfl
            have HCUT := Lib.hid hcut
            obtain ⟨z0, z1, z2⟩ := z
            simp only at k0 k1 k2 hzb
            obtain ⟨n, rfl⟩ : ∃ n : Nat, z2 = n := ⟨z2.toNat, by omega⟩
            have HII := Lib.hid hlt
            have HAL := Lib.hid (below1 wr (.cells #[.int .i64 z0, .int .i64 z1, .int .i64 (n : Int)] 76))
            have HNB := Lib.hid (show n ≤ 1000000 by omega)
            clear hcg hz hzb hcut hbel hi hlen hlt hown
            go_wp2_with fail
            refine (pText (H.out.up (up2 (up2 B2.out HBE.out) HAL.out)) z0 z1).mono ?_
            rintro e w4 ⟨rfl, hb4⟩
            have D4 := Lib.hid (up2 (up2 HBE.out HAL.out) hb4)
            have hts := textV_size H.out z0 z1
            have hcs : cutS T (z0, z1, (n : Int)) = textV T z0 z1 ++ repB 32 n := rfl
            have hv0 : w4.cell? ⟨wr.heap.size, 2, none⟩ = some (.int .i64 (n : Int)) := by
              have := (Blk.made wr 76 #[.int .i64 z0, .int .i64 z1, .int .i64 (n : Int)]).up hb4
              exact this.cell (j := 2) rfl
            obtain ⟨V, hV⟩ : ∃ V, V = textV T z0 z1 := ⟨_, rfl⟩
            rw [← hV] at hts hcs ⊢
            have HCS := Lib.hid hcs
            have HTS := Lib.hid hts
            have BA := Lib.hid (up2 HAL.out hb4)
            clear hV hcs hts hb4 k0 k1 k2
            go_wp2_with fail
            refine (repeat_ok 32 n HNB.out w4).mono ?_
            rintro e w5 ⟨rfl, hb5⟩
            have hv5 := hv0
            have D5 := Lib.hid (up2 D4.out hb5)
            have B5 := Lib.hid (up2 BA.out hb5)
            have hrs : (repB 32 n).size ≤ 1000000 := by rw [repB_size]; exact HNB.out
            obtain ⟨v7, w7, happ, hown7, hb7, _⟩ := append_elem eltStr (w := w5) (HOW.out.up B5.out) (by have := D5.out.size; exact this) (V ++ repB 32 n) (by have := HII.out; have := HLEN.out; simp; omega) (by omega)
            rw [← HCS.out, HCUT.out] at hown7
            have HP := Lib.hid happ
            have HO7 := Lib.hid hown7
            have D7 := Lib.hid (D5.out.trans hb7)
            have hts := HTS.out
            clear happ hown7 hb7 hb5 hv0
            go_wp2_with (at_builtin; refine wpList_app_run (v := u15) (u := .slice (some ⟨w5.heap.size, 0, none⟩) 1 1) rfl _ _ _ rfl rfl rfl HP.out ?_)
            all_goals (try (exfalso; omega))
            go_roundw
            case rel => exact ⟨i + 1, by have := HII.out; omega, HO7.out, rfl, D7.out⟩
            case measure => have := HII.out; simp [int2]; omega
          · obtain rfl : i = R.length := by omega
            have d1 : decide ((R.length : Int) < (R.length : Int)) = false := decide_eq_false (by omega)
            rw [List.take_of_length_le (Nat.le_refl _)] at HOW
            clear hown hbel hi hlen hlt
            go_wp2_with fail
            go_ret2
            unfold CutP
            rw [if_neg (by have := HM.out; omega)]
            exact ⟨_, rfl, HOW.out.low B2.out.size, up2 B2.out HBE.out⟩
end
end Go.Proofs.YtnbccoelbfgmgaaGreatDoor
