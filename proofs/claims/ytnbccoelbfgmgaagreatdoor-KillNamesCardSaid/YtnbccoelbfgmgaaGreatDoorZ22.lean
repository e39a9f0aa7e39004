import Derived.Test.YtnbccoelbfgmgaaGreatDoorZ21
import Derived.Test.YtnbccoelbfgmgaaGreatDoorZ04
import Derived.Test.YtnbccoelbfgmgaaGreatDoorZ20
import Derived.Test.YtnbccoelbfgmgaaGreatDoorLayC
import Derived.Shelf.Strings.Runes
import Derived.Test.YtnbccoelbfgmgaaGreatDoorZ00
import Derived.IntWalk
/- kill.paste: the walk (printed by genKcN.py). -/
namespace Go.Proofs.YtnbccoelbfgmgaaGreatDoor
open Go.RowKit Go.Lib
set_option linter.unusedVariables false
set_option linter.unusedSimpArgs false
/-- The buffer's blocks, and those made behind the frame's two boxes. -/
def Fq (F : Nat → Prop) (n : Nat) : Nat → Prop := fun k => (F k ∧ k < n) ∨ n + 2 ≤ k
def Fo (F : Nat → Prop) (n : Nat) : Nat → Prop := fun k => (F k ∧ k < n) ∨ n ≤ k
/-- Where a round of paste stands: the state, its boxes. -/
structure PasI (N : Nat) (w : World) (b : Nat) (F : Nat → Prop) (n : Nat) (T : Tx) (a B : Nat) (W : World) : Prop where
  pb : PB N W b (Fq F n) T B
  bb : Blk W n 26 #[pAt b]
  ab : Blk W (n + 1) 3 #[.int .i64 a]
  on : Only (Fo F n) w W
  at_ : AtIn T a
  sz : n + 2 ≤ W.heap.size
section
variable {w : World} {N b B n a : Nat} {F : Nat → Prop} {T : Tx} {W W' : World}
theorem PasI.up (h : PasI N w b F n T a B W) (k : Below W.heap.size W W') : PasI N w b F n T a B W' :=
  ⟨h.pb.up k, h.bb.up k, h.ab.up k, h.on.trans (Only.of_below k), h.at_, Nat.le_trans h.sz k.size⟩
theorem PasI.setA (h : PasI N w b F n T a B W) (q : Nat) (hq : AtIn T q) : PasI N w b F n T q B (W.setCell ⟨n + 1, 0, none⟩ (.int .i64 q)) := by
  have hset : Only (fun k => k = n + 1) W (W.setCell ⟨n + 1, 0, none⟩ (.int .i64 q)) := (Only.refl (fun k => k = n + 1) W).setCell (p := ⟨n + 1, 0, none⟩) rfl _
  exact ⟨h.pb.only hset (fun k hk e => by rcases hk with p | p <;> omega), h.bb.only hset (by omega), h.ab.set (j := 0) (by simp) _, h.on.trans (hset.mono (fun k hk => .inr (by omega))), hq, Nat.le_trans h.sz hset.size⟩
theorem PasI.put (hn : n = w.heap.size) {s : ByteArray} {e : Ending} (h : PasI N w b F n T a B W) (hp : PutP N W b (Fq F n) T B n (n + 1) a s e W') (h0 : putEr T a s = 0) : PasI N w b F n (putX T a s) (a + (chrs s).length) (B + 4) W' := by
  have h1 := hp.ka
  rw [if_pos h0] at h1
  have hsz := h.sz
  refine ⟨hp.pb.mono (fun k hk => hk.elim id (fun q => .inr (by omega))) (Nat.le_refl _), hp.kb, h1, h.on.trans (hp.on.mono (fun k hk => ?_)), (putX_in h.at_).2 h0, Nat.le_trans hsz hp.on.size⟩
  rcases hk with (p | p) | p
  · exact .inl p
  · exact .inr (by omega)
  · exact .inr (by omega)
theorem PasI.tabs (h : PasI N w b F n T a B W) (hn : n = w.heap.size) (hN : N ≤ w.heap.size) (hF : edF N F) (hT : Tabs N w) : Tabs N W := Tabs.only hT h.on (fun k hk => by
  rcases hk with hk | hk
  · exact hF k hk.1
  · omega)
theorem PasI.rules (h : PasI N w b F n T a B W) (hn : n = w.heap.size) (hN : N ≤ w.heap.size) (hF : edF N F) (hR : Rules N w) : Rules N W := Rules.only hR h.on (fun k hk => by
  rcases hk with hk | hk
  · exact hF k hk.1
  · omega)
theorem PasI.edF (h : PasI N w b F n T a B W) (hn : n = w.heap.size) (hN : N ≤ w.heap.size) (hF : edF N F) : Go.Proofs.YtnbccoelbfgmgaaGreatDoor.edF N (Fq F n) := fun k hk => by
  rcases hk with hk | hk
  · exact hF k hk.1
  · omega
theorem PasI.le (h : PasI N w b F n T a B W) : a ≤ 65537 := by have := h.pb.le; have := h.pb.sane.hn; have := h.at_.hi; omega
/-- The closure's call at such a state. -/
theorem PasI.call (h : PasI N w b F n T a B W) (hn : n = w.heap.size) (hN : N ≤ w.heap.size) (hF : Go.Proofs.YtnbccoelbfgmgaaGreatDoor.edF N F) (hT : Tabs N w) (hR : Rules N w) (hB : B ≤ 900000) (s : ByteArray) (hs : s.size ≤ 262144) :
    Calls Tryz.prog 97 #[.string s, pAt n, pAt (n + 1)] W (PutP N W b (Fq F n) T B n (n + 1) a s) :=
  put1_ok (h.tabs hn hN hF hT) (h.rules hn hN hF hR) h.pb (h.edF hn hN hF) hB h.at_.ro a (by have := h.le; omega) h.bb h.ab (by rintro (q | q) <;> omega) (by rintro (q | q) <;> omega) (by omega) s hs
/-- What paste answers. -/
def PasteP (N : Nat) (w : World) (b : Nat) (F : Nat → Prop) (T : Tx) (tab col a : Nat) (ss : List ByteArray) (B : Nat) (e : Ending) (w' : World) : Prop :=
  e = .returned (.int .i64 (pasteF tab col T a ss).1) ∧ Only F w w' ∧ PB N w' b (grow F w.heap.size) (pasteF tab col T a ss).2.1 B
theorem PasI.fin {B2 tab col a0 : Nat} {T0 : Tx} {ss : List ByteArray} {E : Int} (h : PasI N w b F n T a B W) (hn : n = w.heap.size) (he : pasteF tab col T0 a0 ss = (E, T, a)) (hB : B ≤ B2) : PasteP N w b F T0 tab col a0 ss B2 (.returned (.int .i64 E)) W := by
  unfold PasteP
  rw [he]
  refine ⟨rfl, (Only.refl F w).then h.on (fun i hi hlt => hi.elim (fun q => q.1) (fun q => by omega)), h.pb.mono (fun k hk => hk.elim (fun q => .inl q.1) (fun q => .inr (by omega))) hB⟩
/-- A failed put leaves the state. -/
theorem PasI.bad (hn : n = w.heap.size) {s : ByteArray} {e : Ending} (h : PasI N w b F n T a B W) (hp : PutP N W b (Fq F n) T B n (n + 1) a s e W') (h0 : ¬ putEr T a s = 0) : PasI N w b F n T a (B + 4) W' := by
  have h1 := hp.ka
  rw [if_neg h0] at h1
  have hsz := h.sz
  have h2 := hp.pb
  rw [show putX T a s = T by unfold putX; rw [if_neg h0]] at h2
  refine ⟨h2.mono (fun k hk => hk.elim id (fun q => .inr (by omega))) (Nat.le_refl _), hp.kb, h1, h.on.trans (hp.on.mono (fun k hk => ?_)), h.at_, Nat.le_trans hsz hp.on.size⟩
  rcases hk with (p | p) | p
  · exact .inl p
  · exact .inr (by omega)
  · exact .inr (by omega)
end
section
variable {w : World} {N b B tab : Nat} {F : Nat → Prop} {T : Tx} {A : Option Addr} {c : Nat} {ss : List ByteArray}
set_option maxRecDepth 100000 in
set_option maxHeartbeats 20000000 in
theorem paste_ok (hT : Tabs N w) (hR : Rules N w) (h : PB N w b F T B) (hF : edF N F) (a0 : Nat) (hat : AtIn T a0) (ht1 : 1 ≤ tab) (ht2 : tab ≤ 64) (hl : ss.length ≤ 1000) (hB : B + ss.length * 12 ≤ 890000) (hL : RSl encStr w A ss) (hz : ∀ s ∈ ss, s.size ≤ 262144) (hsep : ∀ g o z, A = some ⟨g, o, z⟩ → 0 < ss.length → ¬ F g) (hcap : colN widN T.cs tab (lineB T.cs T.S.lo a0) a0 ≤ 200000) :
    Calls Tryz.prog 48 #[pAt b, .int .i64 a0, .int .i64 tab, .slice A ss.length c] w (PasteP N w b F T tab (colN widN T.cs tab (lineB T.cs T.S.lo a0) a0) a0 ss (B + ss.length * 12)) := by
  have HTT := Lib.hid hT
  have HRR := Lib.hid hR
  have HPB := Lib.hid h
  have HF := Lib.hid hF
  have HLL := Lib.hid hl
  have HB := Lib.hid hB
  have HL := Lib.hid hL
  have HN := Lib.hid h.nN
  have HAT := Lib.hid hat
  have HZS := Lib.hid hz
  have HT1 := Lib.hid (⟨ht1, ht2⟩ : _ ∧ _)
  have HSEP := Lib.hid hsep
  have hle := h.le
  have hsn := h.sane
  have hcb := hcap
  obtain ⟨col, hcol⟩ : ∃ col, col = colN widN T.cs tab (lineB T.cs T.S.lo a0) a0 := ⟨_, rfl⟩
  rw [← hcol] at hcb ⊢
  have HCOL := Lib.hid hcol
  have HCB := Lib.hid hcb
  obtain ⟨n, hn⟩ : ∃ n, n = w.heap.size := ⟨_, rfl⟩
  have HNN := Lib.hid hn
  have q0 := Blk.made w 26 #[pAt b]
  have q1 := Blk.made (w.alloc (.cells #[pAt b] 26)) 3 #[.int .i64 a0]
  rw [World.size_alloc] at q1
  have q2 := q0.up (below1 _ (.cells #[.int .i64 a0] 3))
  have qb : Below w.heap.size w ((w.alloc (.cells #[pAt b] 26)).alloc (.cells #[.int .i64 a0] 3)) := up2 (below1 _ _) (below1 _ _)
  have qz : ((w.alloc (.cells #[pAt b] 26)).alloc (.cells #[.int .i64 a0] 3)).heap.size = w.heap.size + 2 := by simp
  rw [← hn] at q1 q2 qz
  have hI0 : PasI N w b F n T a0 B ((w.alloc (.cells #[pAt b] 26)).alloc (.cells #[.int .i64 a0] 3)) :=
    ⟨(h.bound.up qb).mono (fun k hk => .inl ⟨hk.1, by omega⟩) (Nat.le_refl _), q2, q1, Only.of_below qb, hat, by omega⟩
  have HI0 := Lib.hid hI0
  have HQB := Lib.hid qb
  clear hsep hcap hT hR h hF hl hB hL hz hat ht1 ht2 hle hsn hcb hcol hn q0 q1 q2 qb qz hI0
  go_enter Tryz.func48, Tryz.ntmps48
  go_wp2_with fail
  generalize (w.alloc (.cells #[pAt b] 26)).alloc (.cells #[.int .i64 a0] 3) = W0 at *
  have hNW := HNN.out
  rw [← hNW]
  clear hNW
  have c4 : W0.cell? ⟨n, 0, none⟩ = some (pAt b) := HI0.out.bb.cell (j := 0) rfl
  have c5 : W0.cell? ⟨n + 1, 0, none⟩ = some (.int .i64 a0) := HI0.out.ab.cell (j := 0) rfl
  go_wp2_with fail
  refine (column_ok HI0.out.pb.r a0 tab HT1.out.1 HT1.out.2 HAT.out.lo HAT.out.hi).mono ?_
  rintro e w1 ⟨rfl, hb1⟩
  rw [← HCOL.out]
  have HI1 := Lib.hid (HI0.out.up hb1)
  have HQ1 := Lib.hid (up2 HQB.out hb1)
  clear hb1 c4 c5
  go_wp2_with fail
  have hlen := HLL.out
  go_loopw [34] (fun vb wr => ∃ (i : Nat) (T1 : Tx) (a1 : Nat), i ≤ ss.length ∧ vb = .int .i64 i ∧ pasteF tab col T a0 (ss.take i) = (0, T1, a1) ∧ PasI N w b F n T1 a1 (B + i * 12) wr) (fun vb _ => int2 vb (.int .i64 ss.length))
  case atStart => exact ⟨0, T, a0, Nat.zero_le _, rfl, rfl, by simpa using HI1.out⟩
  case round =>
    obtain ⟨i, T1, a1, hi, rfl, hst, hpi⟩ := hrel
    have HST := Lib.hid hst
    have HPI := Lib.hid hpi
    have hlen := HLL.out
    by_cases hlt : i < ss.length
    · have d1 : decide ((i : Int) < (ss.length : Int)) = true := decide_eq_true (by omega)
      have d2 : (i < ss.length) = True := eq_true hlt
      have hlt2 : (i : Int) < ss.length := by omega
      have s1 : IntKind.i64.wrap ((i : Int) + 1) = ((i + 1 : Nat) : Int) := by rw [IntWalk.i64_in _ (by omega)]; omega
      obtain ⟨s, hs⟩ : ∃ s, ss[i]? = some s := ⟨_, List.getElem?_eq_getElem hlt⟩
      have hss := HZS.out s (List.mem_of_getElem? hs)
      have hAl : ∀ g o z, A = some ⟨g, o, z⟩ → True := fun _ _ _ _ => trivial
      obtain ⟨g, o, rfl, hg, hcg⟩ := HL.out.at_ eltStr hs
      have hgF := HSEP.out g o none rfl (by omega)
      have k0 : wr.cell? ⟨g, o + i, none⟩ = some (.string s) := by
        have := hcg 0 _ rfl
        simp only [Nat.mul_one, Nat.add_zero] at this
        exact (World.cell?_of_block (hpi.on.block g hg (by rintro (q | q); exact hgF q.1; have := HNN.out; omega))).trans this
      have HS := Lib.hid hs
      have HSS := Lib.hid hss
      have HLT := Lib.hid hlt
      have hbb : B + i * 12 + 12 ≤ 890000 := by have := HB.out; omega
      have HBB := Lib.hid hbb
      have c4 : wr.cell? ⟨n, 0, none⟩ = some (pAt b) := hpi.bb.cell (j := 0) rfl
      have c5 : wr.cell? ⟨n + 1, 0, none⟩ = some (.int .i64 a1) := hpi.ab.cell (j := 0) rfl
      clear hst hpi hcg hs hss hlt hgF hbb hAl hi hg
      by_cases h0 : i = 0
      · have d3 : decide ((0 : Int) < (i : Int)) = false := decide_eq_false (by omega)
        have d4 : ((0 : Int) < (i : Int)) = False := eq_false (by omega)
        have d4n : (0 < i) = False := eq_false (by omega)
        have SY := Lib.hid (show pasteF tab col T a0 (ss.take (i + 1)) = paste1 tab col T1 a1 s by
          have h1 := HST.out
          have h2 := HS.out
          subst h0
          have h3 : ((0 : Int), T, a0) = (0, T1, a1) := h1
          have h4 := congrArg (fun x => x.2.1) h3
          have h5 := congrArg (fun x => x.2.2) h3
          dsimp only at h4 h5
          rw [pasteF_one tab col T a0 ss h2, h4, h5])
        clear h0 c4 c5
        have PY := HPI
        have c4 : wr.cell? ⟨n, 0, none⟩ = some (pAt b) := PY.out.bb.cell (j := 0) rfl
        have c5 : wr.cell? ⟨n + 1, 0, none⟩ = some (.int .i64 (a1 : Nat)) := PY.out.ab.cell (j := 0) rfl
        have hsk := seek_in PY.out.at_ tab col
        have hcs := fun q (hq : q ≤ 1000001) (hl : lineB T1.cs T1.S.lo a1 ≤ q) => colN_small (cs := T1.cs) HT1.out.2 (lineB T1.cs T1.S.lo a1) q hl hq
        have hcall := seek_ok PY.out.pb.r a1 tab col HT1.out.1 HT1.out.2 PY.out.at_.lo PY.out.at_.hi
        obtain ⟨q, hq⟩ : ∃ q, seekN widN T1.cs tab (lineB T1.cs T1.S.lo a1) (lineE T1.cs T1.S.hi a1) col = q := ⟨_, rfl⟩
        obtain ⟨m, hm⟩ : ∃ m, colN widN T1.cs tab (lineB T1.cs T1.S.lo a1) q = m := ⟨_, rfl⟩
        rw [hq, hm] at hcall
        rw [hq] at hsk
        have hqb : q ≤ 65537 := by have := hsk.1.hi; have := PY.out.pb.le; have := PY.out.pb.sane.hn; omega
        have hmb : m ≤ 100000000 := hm ▸ hcs q (by omega) hsk.2
        have HCA := Lib.hid hcall
        have HQ := Lib.hid hq
        have HM := Lib.hid hm
        have HSK := Lib.hid hsk.1
        clear hcall hq hm hsk hcs
        by_cases hmc : m < col
        · have d5 : decide ((m : Int) < (col : Int)) = true := decide_eq_true (by omega)
          have d6 : (m < col) = True := eq_true hmc
          have hcb := HCB.out
          have s5 : IntKind.i64.wrap ((col : Int) - (m : Int)) = ((col - m : Nat) : Int) := by rw [IntWalk.i64_in _ (by omega)]; omega
          have HMC := Lib.hid hmc
          clear hmc hcb hmb hqb
          go_wp2_with fail
          refine HCA.out.mono ?_
          rintro e w6 ⟨rfl, hb6⟩
          have I6 := Lib.hid (PY.out.up hb6)
          have g5 : w6.cell? ⟨n + 1, 0, none⟩ = some (.int .i64 (a1 : Nat)) := I6.out.ab.cell (j := 0) rfl
          have g6 : w6.frozen? ⟨n + 1, 0, none⟩ = false := I6.out.ab.fz 0
          clear hb6 c4 c5
          go_wp2_with fail
          have I7 := Lib.hid (I6.out.setA q HSK.out)
          obtain ⟨w7, hw7⟩ : ∃ w7, w6.setCell ⟨n + 1, 0, none⟩ (.int .i64 q) = w7 := ⟨_, rfl⟩
          rw [hw7] at I7 ⊢
          clear hw7 g5 g6
          refine (repeat_ok 32 (col - m) (by have := HCB.out; omega) w7).mono ?_
          rintro e w8 ⟨rfl, hb8⟩
          have I8 := Lib.hid (I7.out.up hb8)
          clear hb8
          go_wp2_with fail
          have hcl := I8.out.call HNN.out HN.out HF.out HTT.out HRR.out (by have := HBB.out; omega) (repB 32 (col - m)) (by rw [repB_size]; have := HCB.out; omega)
          refine hcl.mono ?_
          rintro e w5 hp5
          have he5 := hp5.e
          subst he5
          have P5 := Lib.hid hp5
          clear hp5 hcl
          by_cases hy0 : putEr T1 q (repB 32 (col - m)) = 0
          · have HY0 := Lib.hid hy0
            have hI5 := I8.out.put HNN.out P5.out hy0
            rw [(chrs_sp (col - m)).1, List.length_replicate] at hI5
            have PZ := Lib.hid hI5
            have SZ := Lib.hid (SY.out.trans (paste1_pad HQ.out HM.out HMC.out hy0))
            obtain ⟨E, hE⟩ : ∃ E, E = putEr T1 q (repB 32 (col - m)) := ⟨_, rfl⟩
            rw [← hE] at hy0 ⊢
            subst hy0
            clear hE hI5
            obtain ⟨T5, hT5⟩ : ∃ T5, putX T1 q (repB 32 (col - m)) = T5 := ⟨_, rfl⟩
            obtain ⟨a5, ha5⟩ : ∃ a5, q + (col - m) = a5 := ⟨_, rfl⟩
            rw [hT5, ha5] at PZ SZ
            clear hT5
            have c4 : w5.cell? ⟨n, 0, none⟩ = some (pAt b) := PZ.out.bb.cell (j := 0) rfl
            have c5 : w5.cell? ⟨n + 1, 0, none⟩ = some (.int .i64 (a5 : Nat)) := PZ.out.ab.cell (j := 0) rfl
            go_wp2_with fail
            have hcl := PZ.out.call HNN.out HN.out HF.out HTT.out HRR.out (by have := HBB.out; omega) s HSS.out
            refine hcl.mono ?_
            rintro e w9 hp9
            have he9 := hp9.e
            subst he9
            have P9 := Lib.hid hp9
            clear hp9 hcl c4 c5
            by_cases hz0 : putEr T5 a5 s = 0
            · have HZ0 := Lib.hid hz0
              have hI9 := PZ.out.put HNN.out P9.out hz0
              obtain ⟨E, hE⟩ : ∃ E, E = putEr T5 a5 s := ⟨_, rfl⟩
              rw [← hE] at hz0 ⊢
              subst hz0
              clear hE
              have I9 := Lib.hid hI9
              have c5 : w9.cell? ⟨n + 1, 0, none⟩ = some (.int .i64 (a5 + (chrs s).length : Nat)) := hI9.ab.cell (j := 0) rfl
              have f5 : w9.frozen? ⟨n + 1, 0, none⟩ = false := hI9.ab.fz 0
              clear hI9
              go_wp2_with fail
              go_roundw
              case rel =>
                refine ⟨i + 1, putX T5 a5 s, a5, by have := HLT.out; omega, rfl, ?_, ?_⟩
                · rw [SZ.out, HZ0.out]
                · have := I9.out.setA a5 (putX_in PZ.out.at_).1
                  exact ⟨this.pb.mono (fun k hk => hk) (by omega), this.bb, this.ab, this.on, this.at_, this.sz⟩
              case measure => have := HLT.out; simp [int2]; omega
            · have HZ0 := Lib.hid hz0
              have hI9 := Lib.hid (PZ.out.bad HNN.out P9.out hz0)
              obtain ⟨E, hE⟩ : ∃ E, E = putEr T5 a5 s := ⟨_, rfl⟩
              rw [← hE] at hz0 ⊢
              have e1 : (E == 0) = false := by simpa using hz0
              have e2 : (E = 0) = False := eq_false hz0
              have HE := Lib.hid hE
              clear hz0 hE
              go_wp2_with fail
              go_ret
              have hf : pasteF tab col T a0 ss = (E, T5, a5) := by
                have h1 := pasteF_err tab col T a0 ss (i + 1) (by rw [SZ.out]; exact HZ0.out)
                rw [h1, SZ.out, ← HE.out]
                congr 2
                unfold putX; rw [if_neg HZ0.out]
              exact hI9.out.fin HNN.out hf (by have := HLT.out; omega)
          · have HY0 := Lib.hid hy0
            have hI5 := Lib.hid (I8.out.bad HNN.out P5.out hy0)
            have SZ := Lib.hid (SY.out.trans (paste1_bad HQ.out HM.out HMC.out hy0))
            obtain ⟨E, hE⟩ : ∃ E, E = putEr T1 q (repB 32 (col - m)) := ⟨_, rfl⟩
            rw [← hE] at hy0 SZ ⊢
            have e1 : (E == 0) = false := by simpa using hy0
            have e2 : (E = 0) = False := eq_false hy0
            have HE := Lib.hid hy0
            clear hy0 hE
            go_wp2_with fail
            go_ret
            have hf : pasteF tab col T a0 ss = (E, T1, q) := by
              have h1 := pasteF_err tab col T a0 ss (i + 1) (by rw [SZ.out]; exact HE.out)
              rw [h1, SZ.out]
            exact hI5.out.fin HNN.out hf (by have := HLT.out; omega)
        · have d5 : decide ((m : Int) < (col : Int)) = false := decide_eq_false (by omega)
          have d6 : (m < col) = False := eq_false hmc
          have HMC := Lib.hid hmc
          clear hmc hmb hqb
          go_wp2_with fail
          refine HCA.out.mono ?_
          rintro e w6 ⟨rfl, hb6⟩
          have I6 := Lib.hid (PY.out.up hb6)
          have g5 : w6.cell? ⟨n + 1, 0, none⟩ = some (.int .i64 (a1 : Nat)) := I6.out.ab.cell (j := 0) rfl
          have g6 : w6.frozen? ⟨n + 1, 0, none⟩ = false := I6.out.ab.fz 0
          clear hb6 c4 c5
          have PZ := Lib.hid (I6.out.setA q HSK.out)
          have g7 : (w6.setCell ⟨n + 1, 0, none⟩ (.int .i64 q)).cell? ⟨n + 1, 0, none⟩ = some (.int .i64 q) := PZ.out.ab.cell (j := 0) rfl
          have SZ := Lib.hid (SY.out.trans (paste1_full HQ.out HM.out HMC.out))
          have c4 : (w6.setCell ⟨n + 1, 0, none⟩ (.int .i64 q)).cell? ⟨n, 0, none⟩ = some (pAt b) := PZ.out.bb.cell (j := 0) rfl
          have c5 : (w6.setCell ⟨n + 1, 0, none⟩ (.int .i64 q)).cell? ⟨n + 1, 0, none⟩ = some (.int .i64 (q : Nat)) := PZ.out.ab.cell (j := 0) rfl
          go_wp2_with fail
          have hcl := PZ.out.call HNN.out HN.out HF.out HTT.out HRR.out (by have := HBB.out; omega) s HSS.out
          refine hcl.mono ?_
          rintro e w9 hp9
          have he9 := hp9.e
          subst he9
          have P9 := Lib.hid hp9
          clear hp9 hcl c4 c5
          by_cases hz0 : putEr T1 q s = 0
          · have HZ0 := Lib.hid hz0
            have hI9 := PZ.out.put HNN.out P9.out hz0
            obtain ⟨E, hE⟩ : ∃ E, E = putEr T1 q s := ⟨_, rfl⟩
            rw [← hE] at hz0 ⊢
            subst hz0
            clear hE
            have I9 := Lib.hid hI9
            have c5 : w9.cell? ⟨n + 1, 0, none⟩ = some (.int .i64 (q + (chrs s).length : Nat)) := hI9.ab.cell (j := 0) rfl
            have f5 : w9.frozen? ⟨n + 1, 0, none⟩ = false := hI9.ab.fz 0
            clear hI9
            go_wp2_with fail
            go_roundw
            case rel =>
              refine ⟨i + 1, putX T1 q s, q, by have := HLT.out; omega, rfl, ?_, ?_⟩
              · rw [SZ.out, HZ0.out]
              · have := I9.out.setA q (putX_in PZ.out.at_).1
                exact ⟨this.pb.mono (fun k hk => hk) (by omega), this.bb, this.ab, this.on, this.at_, this.sz⟩
            case measure => have := HLT.out; simp [int2]; omega
          · have HZ0 := Lib.hid hz0
            have hI9 := Lib.hid (PZ.out.bad HNN.out P9.out hz0)
            obtain ⟨E, hE⟩ : ∃ E, E = putEr T1 q s := ⟨_, rfl⟩
            rw [← hE] at hz0 ⊢
            have e1 : (E == 0) = false := by simpa using hz0
            have e2 : (E = 0) = False := eq_false hz0
            have HE := Lib.hid hE
            clear hz0 hE
            go_wp2_with fail
            go_ret
            have hf : pasteF tab col T a0 ss = (E, T1, q) := by
              have h1 := pasteF_err tab col T a0 ss (i + 1) (by rw [SZ.out]; exact HZ0.out)
              rw [h1, SZ.out, ← HE.out]
              congr 2
              unfold putX; rw [if_neg HZ0.out]
            exact hI9.out.fin HNN.out hf (by have := HLT.out; omega)
      · have d3 : decide ((0 : Int) < (i : Int)) = true := decide_eq_true (by omega)
        have d4 : ((0 : Int) < (i : Int)) = True := eq_true (by omega)
        have d4n : (0 < i) = True := eq_true (by omega)
        have hmo := pasteF_more tab col T a0 ss (by omega) HS.out HST.out
        have HMO := Lib.hid hmo
        have hln := lines_fwd HPI.out.pb.r a1 1 (by omega) HPI.out.at_.lo HPI.out.at_.hi
        have hnin := next_in HPI.out.at_
        obtain ⟨nx, lf, hnl⟩ : ∃ nx lf, linesF T1.cs T1.S.lo T1.S.hi 1 a1 = (nx, lf) := ⟨_, _, rfl⟩
        rw [hnl] at hln hnin
        dsimp only at hln hnin
        have HLN := Lib.hid hln
        have HNL := Lib.hid hnl
        have HNI := Lib.hid hnin
        clear h0 hmo hln hnl hnin
        by_cases hlf : 0 < lf
        · have d5 : decide ((0 : Int) < (lf : Int)) = true := decide_eq_true (by omega)
          have d6 : ((0 : Int) < (lf : Int)) = True := eq_true (by omega)
          have d6n : (0 < lf) = True := eq_true (by omega)
          have HLF := Lib.hid hlf
          clear hlf
          go_wp2_with fail
          refine HLN.out.mono ?_
          rintro e w2 ⟨rfl, hb2⟩
          have I2 := Lib.hid (HPI.out.up hb2)
          have g5 : w2.cell? ⟨n + 1, 0, none⟩ = some (.int .i64 (a1 : Nat)) := I2.out.ab.cell (j := 0) rfl
          have g6 : w2.frozen? ⟨n + 1, 0, none⟩ = false := I2.out.ab.fz 0
          clear hb2 c4 c5
          go_wp2_with fail
          have I3 := Lib.hid (I2.out.setA nx HNI.out)
          obtain ⟨w3, hw3⟩ : ∃ w3, w2.setCell ⟨n + 1, 0, none⟩ (.int .i64 nx) = w3 := ⟨_, rfl⟩
          rw [hw3] at I3 ⊢
          clear hw3 g5 g6
          have hcl := I3.out.call HNN.out HN.out HF.out HTT.out HRR.out (by have := HBB.out; omega) ⟨#[10]⟩ (by simp [ByteArray.size])
          refine hcl.mono ?_
          rintro e w4 hp4
          have he4 := hp4.e
          subst he4
          have P4 := Lib.hid hp4
          clear hp4 hcl
          by_cases hx0 : putEr T1 nx ⟨#[10]⟩ = 0
          · have hI4 := I3.out.put HNN.out P4.out hx0
            have hc10 : (chrs ⟨#[10]⟩).length = 1 := rfl
            rw [hc10] at hI4
            have PY := Lib.hid hI4
            have SY := Lib.hid (HMO.out.trans (paste2_ok tab col T1 a1 s (pasteN_put T1 a1 HNL.out HLF.out hx0)))
            obtain ⟨E, hE⟩ : ∃ E, E = putEr T1 nx ⟨#[10]⟩ := ⟨_, rfl⟩
            rw [← hE] at hx0 ⊢
            subst hx0
            clear hE hI4 hc10
            obtain ⟨T4, hT4⟩ : ∃ T4, putX T1 nx ⟨#[10]⟩ = T4 := ⟨_, rfl⟩
            obtain ⟨a4, ha4⟩ : ∃ a4, nx + 1 = a4 := ⟨_, rfl⟩
            rw [hT4, ha4] at PY SY
            clear hT4 ha4
            have c4 : w4.cell? ⟨n, 0, none⟩ = some (pAt b) := PY.out.bb.cell (j := 0) rfl
            have c5 : w4.cell? ⟨n + 1, 0, none⟩ = some (.int .i64 (a4 : Nat)) := PY.out.ab.cell (j := 0) rfl
            have hsk := seek_in PY.out.at_ tab col
            have hcs := fun q (hq : q ≤ 1000001) (hl : lineB T4.cs T4.S.lo a4 ≤ q) => colN_small (cs := T4.cs) HT1.out.2 (lineB T4.cs T4.S.lo a4) q hl hq
            have hcall := seek_ok PY.out.pb.r a4 tab col HT1.out.1 HT1.out.2 PY.out.at_.lo PY.out.at_.hi
            obtain ⟨q, hq⟩ : ∃ q, seekN widN T4.cs tab (lineB T4.cs T4.S.lo a4) (lineE T4.cs T4.S.hi a4) col = q := ⟨_, rfl⟩
            obtain ⟨m, hm⟩ : ∃ m, colN widN T4.cs tab (lineB T4.cs T4.S.lo a4) q = m := ⟨_, rfl⟩
            rw [hq, hm] at hcall
            rw [hq] at hsk
            have hqb : q ≤ 65537 := by have := hsk.1.hi; have := PY.out.pb.le; have := PY.out.pb.sane.hn; omega
            have hmb : m ≤ 100000000 := hm ▸ hcs q (by omega) hsk.2
            have HCA := Lib.hid hcall
            have HQ := Lib.hid hq
            have HM := Lib.hid hm
            have HSK := Lib.hid hsk.1
            clear hcall hq hm hsk hcs
            by_cases hmc : m < col
            · have d5 : decide ((m : Int) < (col : Int)) = true := decide_eq_true (by omega)
              have d6 : (m < col) = True := eq_true hmc
              have hcb := HCB.out
              have s5 : IntKind.i64.wrap ((col : Int) - (m : Int)) = ((col - m : Nat) : Int) := by rw [IntWalk.i64_in _ (by omega)]; omega
              have HMC := Lib.hid hmc
              clear hmc hcb hmb hqb
              go_wp2_with fail
              refine HCA.out.mono ?_
              rintro e w6 ⟨rfl, hb6⟩
              have I6 := Lib.hid (PY.out.up hb6)
              have g5 : w6.cell? ⟨n + 1, 0, none⟩ = some (.int .i64 (a4 : Nat)) := I6.out.ab.cell (j := 0) rfl
              have g6 : w6.frozen? ⟨n + 1, 0, none⟩ = false := I6.out.ab.fz 0
              clear hb6 c4 c5
              go_wp2_with fail
              have I7 := Lib.hid (I6.out.setA q HSK.out)
              obtain ⟨w7, hw7⟩ : ∃ w7, w6.setCell ⟨n + 1, 0, none⟩ (.int .i64 q) = w7 := ⟨_, rfl⟩
              rw [hw7] at I7 ⊢
              clear hw7 g5 g6
              refine (repeat_ok 32 (col - m) (by have := HCB.out; omega) w7).mono ?_
              rintro e w8 ⟨rfl, hb8⟩
              have I8 := Lib.hid (I7.out.up hb8)
              clear hb8
              go_wp2_with fail
              have hcl := I8.out.call HNN.out HN.out HF.out HTT.out HRR.out (by have := HBB.out; omega) (repB 32 (col - m)) (by rw [repB_size]; have := HCB.out; omega)
              refine hcl.mono ?_
              rintro e w5 hp5
              have he5 := hp5.e
              subst he5
              have P5 := Lib.hid hp5
              clear hp5 hcl
              by_cases hy0 : putEr T4 q (repB 32 (col - m)) = 0
              · have HY0 := Lib.hid hy0
                have hI5 := I8.out.put HNN.out P5.out hy0
                rw [(chrs_sp (col - m)).1, List.length_replicate] at hI5
                have PZ := Lib.hid hI5
                have SZ := Lib.hid (SY.out.trans (paste1_pad HQ.out HM.out HMC.out hy0))
                obtain ⟨E, hE⟩ : ∃ E, E = putEr T4 q (repB 32 (col - m)) := ⟨_, rfl⟩
                rw [← hE] at hy0 ⊢
                subst hy0
                clear hE hI5
                obtain ⟨T5, hT5⟩ : ∃ T5, putX T4 q (repB 32 (col - m)) = T5 := ⟨_, rfl⟩
                obtain ⟨a5, ha5⟩ : ∃ a5, q + (col - m) = a5 := ⟨_, rfl⟩
                rw [hT5, ha5] at PZ SZ
                clear hT5
                have c4 : w5.cell? ⟨n, 0, none⟩ = some (pAt b) := PZ.out.bb.cell (j := 0) rfl
                have c5 : w5.cell? ⟨n + 1, 0, none⟩ = some (.int .i64 (a5 : Nat)) := PZ.out.ab.cell (j := 0) rfl
                go_wp2_with fail
                have hcl := PZ.out.call HNN.out HN.out HF.out HTT.out HRR.out (by have := HBB.out; omega) s HSS.out
                refine hcl.mono ?_
                rintro e w9 hp9
                have he9 := hp9.e
                subst he9
                have P9 := Lib.hid hp9
                clear hp9 hcl c4 c5
                by_cases hz0 : putEr T5 a5 s = 0
                · have HZ0 := Lib.hid hz0
                  have hI9 := PZ.out.put HNN.out P9.out hz0
                  obtain ⟨E, hE⟩ : ∃ E, E = putEr T5 a5 s := ⟨_, rfl⟩
                  rw [← hE] at hz0 ⊢
                  subst hz0
                  clear hE
                  have I9 := Lib.hid hI9
                  have c5 : w9.cell? ⟨n + 1, 0, none⟩ = some (.int .i64 (a5 + (chrs s).length : Nat)) := hI9.ab.cell (j := 0) rfl
                  have f5 : w9.frozen? ⟨n + 1, 0, none⟩ = false := hI9.ab.fz 0
                  clear hI9
                  go_wp2_with fail
                  go_roundw
                  case rel =>
                    refine ⟨i + 1, putX T5 a5 s, a5, by have := HLT.out; omega, rfl, ?_, ?_⟩
                    · rw [SZ.out, HZ0.out]
                    · have := I9.out.setA a5 (putX_in PZ.out.at_).1
                      exact ⟨this.pb.mono (fun k hk => hk) (by omega), this.bb, this.ab, this.on, this.at_, this.sz⟩
                  case measure => have := HLT.out; simp [int2]; omega
                · have HZ0 := Lib.hid hz0
                  have hI9 := Lib.hid (PZ.out.bad HNN.out P9.out hz0)
                  obtain ⟨E, hE⟩ : ∃ E, E = putEr T5 a5 s := ⟨_, rfl⟩
                  rw [← hE] at hz0 ⊢
                  have e1 : (E == 0) = false := by simpa using hz0
                  have e2 : (E = 0) = False := eq_false hz0
                  have HE := Lib.hid hE
                  clear hz0 hE
                  go_wp2_with fail
                  go_ret
                  have hf : pasteF tab col T a0 ss = (E, T5, a5) := by
                    have h1 := pasteF_err tab col T a0 ss (i + 1) (by rw [SZ.out]; exact HZ0.out)
                    rw [h1, SZ.out, ← HE.out]
                    congr 2
                    unfold putX; rw [if_neg HZ0.out]
                  exact hI9.out.fin HNN.out hf (by have := HLT.out; omega)
              · have HY0 := Lib.hid hy0
                have hI5 := Lib.hid (I8.out.bad HNN.out P5.out hy0)
                have SZ := Lib.hid (SY.out.trans (paste1_bad HQ.out HM.out HMC.out hy0))
                obtain ⟨E, hE⟩ : ∃ E, E = putEr T4 q (repB 32 (col - m)) := ⟨_, rfl⟩
                rw [← hE] at hy0 SZ ⊢
                have e1 : (E == 0) = false := by simpa using hy0
                have e2 : (E = 0) = False := eq_false hy0
                have HE := Lib.hid hy0
                clear hy0 hE
                go_wp2_with fail
                go_ret
                have hf : pasteF tab col T a0 ss = (E, T4, q) := by
                  have h1 := pasteF_err tab col T a0 ss (i + 1) (by rw [SZ.out]; exact HE.out)
                  rw [h1, SZ.out]
                exact hI5.out.fin HNN.out hf (by have := HLT.out; omega)
            · have d5 : decide ((m : Int) < (col : Int)) = false := decide_eq_false (by omega)
              have d6 : (m < col) = False := eq_false hmc
              have HMC := Lib.hid hmc
              clear hmc hmb hqb
              go_wp2_with fail
              refine HCA.out.mono ?_
              rintro e w6 ⟨rfl, hb6⟩
              have I6 := Lib.hid (PY.out.up hb6)
              have g5 : w6.cell? ⟨n + 1, 0, none⟩ = some (.int .i64 (a4 : Nat)) := I6.out.ab.cell (j := 0) rfl
              have g6 : w6.frozen? ⟨n + 1, 0, none⟩ = false := I6.out.ab.fz 0
              clear hb6 c4 c5
              have PZ := Lib.hid (I6.out.setA q HSK.out)
              have g7 : (w6.setCell ⟨n + 1, 0, none⟩ (.int .i64 q)).cell? ⟨n + 1, 0, none⟩ = some (.int .i64 q) := PZ.out.ab.cell (j := 0) rfl
              have SZ := Lib.hid (SY.out.trans (paste1_full HQ.out HM.out HMC.out))
              have c4 : (w6.setCell ⟨n + 1, 0, none⟩ (.int .i64 q)).cell? ⟨n, 0, none⟩ = some (pAt b) := PZ.out.bb.cell (j := 0) rfl
              have c5 : (w6.setCell ⟨n + 1, 0, none⟩ (.int .i64 q)).cell? ⟨n + 1, 0, none⟩ = some (.int .i64 (q : Nat)) := PZ.out.ab.cell (j := 0) rfl
              go_wp2_with fail
              have hcl := PZ.out.call HNN.out HN.out HF.out HTT.out HRR.out (by have := HBB.out; omega) s HSS.out
              refine hcl.mono ?_
              rintro e w9 hp9
              have he9 := hp9.e
              subst he9
              have P9 := Lib.hid hp9
              clear hp9 hcl c4 c5
              by_cases hz0 : putEr T4 q s = 0
              · have HZ0 := Lib.hid hz0
                have hI9 := PZ.out.put HNN.out P9.out hz0
                obtain ⟨E, hE⟩ : ∃ E, E = putEr T4 q s := ⟨_, rfl⟩
                rw [← hE] at hz0 ⊢
                subst hz0
                clear hE
                have I9 := Lib.hid hI9
                have c5 : w9.cell? ⟨n + 1, 0, none⟩ = some (.int .i64 (q + (chrs s).length : Nat)) := hI9.ab.cell (j := 0) rfl
                have f5 : w9.frozen? ⟨n + 1, 0, none⟩ = false := hI9.ab.fz 0
                clear hI9
                go_wp2_with fail
                go_roundw
                case rel =>
                  refine ⟨i + 1, putX T4 q s, q, by have := HLT.out; omega, rfl, ?_, ?_⟩
                  · rw [SZ.out, HZ0.out]
                  · have := I9.out.setA q (putX_in PZ.out.at_).1
                    exact ⟨this.pb.mono (fun k hk => hk) (by omega), this.bb, this.ab, this.on, this.at_, this.sz⟩
                case measure => have := HLT.out; simp [int2]; omega
              · have HZ0 := Lib.hid hz0
                have hI9 := Lib.hid (PZ.out.bad HNN.out P9.out hz0)
                obtain ⟨E, hE⟩ : ∃ E, E = putEr T4 q s := ⟨_, rfl⟩
                rw [← hE] at hz0 ⊢
                have e1 : (E == 0) = false := by simpa using hz0
                have e2 : (E = 0) = False := eq_false hz0
                have HE := Lib.hid hE
                clear hz0 hE
                go_wp2_with fail
                go_ret
                have hf : pasteF tab col T a0 ss = (E, T4, q) := by
                  have h1 := pasteF_err tab col T a0 ss (i + 1) (by rw [SZ.out]; exact HZ0.out)
                  rw [h1, SZ.out, ← HE.out]
                  congr 2
                  unfold putX; rw [if_neg HZ0.out]
                exact hI9.out.fin HNN.out hf (by have := HLT.out; omega)
          · have hI4 := Lib.hid (I3.out.bad HNN.out P4.out hx0)
            have SZ := Lib.hid (HMO.out.trans (paste2_err tab col T1 a1 s (pasteN_err T1 a1 HNL.out HLF.out hx0) hx0))
            obtain ⟨E, hE⟩ : ∃ E, E = putEr T1 nx ⟨#[10]⟩ := ⟨_, rfl⟩
            rw [← hE] at hx0 SZ ⊢
            have e1 : (E == 0) = false := by simpa using hx0
            have e2 : (E = 0) = False := eq_false hx0
            have HE := Lib.hid hx0
            clear hx0 hE
            go_wp2_with fail
            go_ret
            have hf : pasteF tab col T a0 ss = (E, T1, nx) := by
              have h1 := pasteF_err tab col T a0 ss (i + 1) (by rw [SZ.out]; exact HE.out)
              rw [h1, SZ.out]
            exact hI4.out.fin HNN.out hf (by have := HLT.out; omega)
        · have d5 : decide ((0 : Int) < (lf : Int)) = false := decide_eq_false (by omega)
          have d6 : ((0 : Int) < (lf : Int)) = False := eq_false (by omega)
          have d6n : (0 < lf) = False := eq_false (by omega)
          have SY := Lib.hid (HMO.out.trans (paste2_ok tab col T1 a1 s (pasteN_zero T1 a1 HNL.out hlf)))
          clear hlf
          go_wp2_with fail
          refine HLN.out.mono ?_
          rintro e w2 ⟨rfl, hb2⟩
          have I2 := Lib.hid (HPI.out.up hb2)
          have g5 : w2.cell? ⟨n + 1, 0, none⟩ = some (.int .i64 (a1 : Nat)) := I2.out.ab.cell (j := 0) rfl
          have g6 : w2.frozen? ⟨n + 1, 0, none⟩ = false := I2.out.ab.fz 0
          clear hb2 c4 c5
          have PY := Lib.hid (I2.out.setA nx HNI.out)
          have c4 : (w2.setCell ⟨n + 1, 0, none⟩ (.int .i64 nx)).cell? ⟨n, 0, none⟩ = some (pAt b) := PY.out.bb.cell (j := 0) rfl
          have c5 : (w2.setCell ⟨n + 1, 0, none⟩ (.int .i64 nx)).cell? ⟨n + 1, 0, none⟩ = some (.int .i64 (nx : Nat)) := PY.out.ab.cell (j := 0) rfl
          have hsk := seek_in PY.out.at_ tab col
          have hcs := fun q (hq : q ≤ 1000001) (hl : lineB T1.cs T1.S.lo nx ≤ q) => colN_small (cs := T1.cs) HT1.out.2 (lineB T1.cs T1.S.lo nx) q hl hq
          have hcall := seek_ok PY.out.pb.r nx tab col HT1.out.1 HT1.out.2 PY.out.at_.lo PY.out.at_.hi
          obtain ⟨q, hq⟩ : ∃ q, seekN widN T1.cs tab (lineB T1.cs T1.S.lo nx) (lineE T1.cs T1.S.hi nx) col = q := ⟨_, rfl⟩
          obtain ⟨m, hm⟩ : ∃ m, colN widN T1.cs tab (lineB T1.cs T1.S.lo nx) q = m := ⟨_, rfl⟩
          rw [hq, hm] at hcall
          rw [hq] at hsk
          have hqb : q ≤ 65537 := by have := hsk.1.hi; have := PY.out.pb.le; have := PY.out.pb.sane.hn; omega
          have hmb : m ≤ 100000000 := hm ▸ hcs q (by omega) hsk.2
          have HCA := Lib.hid hcall
          have HQ := Lib.hid hq
          have HM := Lib.hid hm
          have HSK := Lib.hid hsk.1
          clear hcall hq hm hsk hcs
          by_cases hmc : m < col
          · have d5 : decide ((m : Int) < (col : Int)) = true := decide_eq_true (by omega)
            have d6 : (m < col) = True := eq_true hmc
            have hcb := HCB.out
            have s5 : IntKind.i64.wrap ((col : Int) - (m : Int)) = ((col - m : Nat) : Int) := by rw [IntWalk.i64_in _ (by omega)]; omega
            have HMC := Lib.hid hmc
            clear hmc hcb hmb hqb
            go_wp2_with fail
            refine HCA.out.mono ?_
            rintro e w6 ⟨rfl, hb6⟩
            have I6 := Lib.hid (PY.out.up hb6)
            have g5 : w6.cell? ⟨n + 1, 0, none⟩ = some (.int .i64 (nx : Nat)) := I6.out.ab.cell (j := 0) rfl
            have g6 : w6.frozen? ⟨n + 1, 0, none⟩ = false := I6.out.ab.fz 0
            clear hb6 c4 c5
            go_wp2_with fail
            have I7 := Lib.hid (I6.out.setA q HSK.out)
            obtain ⟨w7, hw7⟩ : ∃ w7, w6.setCell ⟨n + 1, 0, none⟩ (.int .i64 q) = w7 := ⟨_, rfl⟩
            rw [hw7] at I7 ⊢
            clear hw7 g5 g6
            refine (repeat_ok 32 (col - m) (by have := HCB.out; omega) w7).mono ?_
            rintro e w8 ⟨rfl, hb8⟩
            have I8 := Lib.hid (I7.out.up hb8)
            clear hb8
            go_wp2_with fail
            have hcl := I8.out.call HNN.out HN.out HF.out HTT.out HRR.out (by have := HBB.out; omega) (repB 32 (col - m)) (by rw [repB_size]; have := HCB.out; omega)
            refine hcl.mono ?_
            rintro e w5 hp5
            have he5 := hp5.e
            subst he5
            have P5 := Lib.hid hp5
            clear hp5 hcl
            by_cases hy0 : putEr T1 q (repB 32 (col - m)) = 0
            · have HY0 := Lib.hid hy0
              have hI5 := I8.out.put HNN.out P5.out hy0
              rw [(chrs_sp (col - m)).1, List.length_replicate] at hI5
              have PZ := Lib.hid hI5
              have SZ := Lib.hid (SY.out.trans (paste1_pad HQ.out HM.out HMC.out hy0))
              obtain ⟨E, hE⟩ : ∃ E, E = putEr T1 q (repB 32 (col - m)) := ⟨_, rfl⟩
              rw [← hE] at hy0 ⊢
              subst hy0
              clear hE hI5
              obtain ⟨T5, hT5⟩ : ∃ T5, putX T1 q (repB 32 (col - m)) = T5 := ⟨_, rfl⟩
              obtain ⟨a5, ha5⟩ : ∃ a5, q + (col - m) = a5 := ⟨_, rfl⟩
              rw [hT5, ha5] at PZ SZ
              clear hT5
              have c4 : w5.cell? ⟨n, 0, none⟩ = some (pAt b) := PZ.out.bb.cell (j := 0) rfl
              have c5 : w5.cell? ⟨n + 1, 0, none⟩ = some (.int .i64 (a5 : Nat)) := PZ.out.ab.cell (j := 0) rfl
              go_wp2_with fail
              have hcl := PZ.out.call HNN.out HN.out HF.out HTT.out HRR.out (by have := HBB.out; omega) s HSS.out
              refine hcl.mono ?_
              rintro e w9 hp9
              have he9 := hp9.e
              subst he9
              have P9 := Lib.hid hp9
              clear hp9 hcl c4 c5
              by_cases hz0 : putEr T5 a5 s = 0
              · have HZ0 := Lib.hid hz0
                have hI9 := PZ.out.put HNN.out P9.out hz0
                obtain ⟨E, hE⟩ : ∃ E, E = putEr T5 a5 s := ⟨_, rfl⟩
                rw [← hE] at hz0 ⊢
                subst hz0
                clear hE
                have I9 := Lib.hid hI9
                have c5 : w9.cell? ⟨n + 1, 0, none⟩ = some (.int .i64 (a5 + (chrs s).length : Nat)) := hI9.ab.cell (j := 0) rfl
                have f5 : w9.frozen? ⟨n + 1, 0, none⟩ = false := hI9.ab.fz 0
                clear hI9
                go_wp2_with fail
                go_roundw
                case rel =>
                  refine ⟨i + 1, putX T5 a5 s, a5, by have := HLT.out; omega, rfl, ?_, ?_⟩
                  · rw [SZ.out, HZ0.out]
                  · have := I9.out.setA a5 (putX_in PZ.out.at_).1
                    exact ⟨this.pb.mono (fun k hk => hk) (by omega), this.bb, this.ab, this.on, this.at_, this.sz⟩
                case measure => have := HLT.out; simp [int2]; omega
              · have HZ0 := Lib.hid hz0
                have hI9 := Lib.hid (PZ.out.bad HNN.out P9.out hz0)
                obtain ⟨E, hE⟩ : ∃ E, E = putEr T5 a5 s := ⟨_, rfl⟩
                rw [← hE] at hz0 ⊢
                have e1 : (E == 0) = false := by simpa using hz0
                have e2 : (E = 0) = False := eq_false hz0
                have HE := Lib.hid hE
                clear hz0 hE
                go_wp2_with fail
                go_ret
                have hf : pasteF tab col T a0 ss = (E, T5, a5) := by
                  have h1 := pasteF_err tab col T a0 ss (i + 1) (by rw [SZ.out]; exact HZ0.out)
                  rw [h1, SZ.out, ← HE.out]
                  congr 2
                  unfold putX; rw [if_neg HZ0.out]
                exact hI9.out.fin HNN.out hf (by have := HLT.out; omega)
            · have HY0 := Lib.hid hy0
              have hI5 := Lib.hid (I8.out.bad HNN.out P5.out hy0)
              have SZ := Lib.hid (SY.out.trans (paste1_bad HQ.out HM.out HMC.out hy0))
              obtain ⟨E, hE⟩ : ∃ E, E = putEr T1 q (repB 32 (col - m)) := ⟨_, rfl⟩
              rw [← hE] at hy0 SZ ⊢
              have e1 : (E == 0) = false := by simpa using hy0
              have e2 : (E = 0) = False := eq_false hy0
              have HE := Lib.hid hy0
              clear hy0 hE
              go_wp2_with fail
              go_ret
              have hf : pasteF tab col T a0 ss = (E, T1, q) := by
                have h1 := pasteF_err tab col T a0 ss (i + 1) (by rw [SZ.out]; exact HE.out)
                rw [h1, SZ.out]
              exact hI5.out.fin HNN.out hf (by have := HLT.out; omega)
          · have d5 : decide ((m : Int) < (col : Int)) = false := decide_eq_false (by omega)
            have d6 : (m < col) = False := eq_false hmc
            have HMC := Lib.hid hmc
            clear hmc hmb hqb
            go_wp2_with fail
            refine HCA.out.mono ?_
            rintro e w6 ⟨rfl, hb6⟩
            have I6 := Lib.hid (PY.out.up hb6)
            have g5 : w6.cell? ⟨n + 1, 0, none⟩ = some (.int .i64 (nx : Nat)) := I6.out.ab.cell (j := 0) rfl
            have g6 : w6.frozen? ⟨n + 1, 0, none⟩ = false := I6.out.ab.fz 0
            clear hb6 c4 c5
            have PZ := Lib.hid (I6.out.setA q HSK.out)
            have g7 : (w6.setCell ⟨n + 1, 0, none⟩ (.int .i64 q)).cell? ⟨n + 1, 0, none⟩ = some (.int .i64 q) := PZ.out.ab.cell (j := 0) rfl
            have SZ := Lib.hid (SY.out.trans (paste1_full HQ.out HM.out HMC.out))
            have c4 : (w6.setCell ⟨n + 1, 0, none⟩ (.int .i64 q)).cell? ⟨n, 0, none⟩ = some (pAt b) := PZ.out.bb.cell (j := 0) rfl
            have c5 : (w6.setCell ⟨n + 1, 0, none⟩ (.int .i64 q)).cell? ⟨n + 1, 0, none⟩ = some (.int .i64 (q : Nat)) := PZ.out.ab.cell (j := 0) rfl
            go_wp2_with fail
            have hcl := PZ.out.call HNN.out HN.out HF.out HTT.out HRR.out (by have := HBB.out; omega) s HSS.out
            refine hcl.mono ?_
            rintro e w9 hp9
            have he9 := hp9.e
            subst he9
            have P9 := Lib.hid hp9
            clear hp9 hcl c4 c5
            by_cases hz0 : putEr T1 q s = 0
            · have HZ0 := Lib.hid hz0
              have hI9 := PZ.out.put HNN.out P9.out hz0
              obtain ⟨E, hE⟩ : ∃ E, E = putEr T1 q s := ⟨_, rfl⟩
              rw [← hE] at hz0 ⊢
              subst hz0
              clear hE
              have I9 := Lib.hid hI9
              have c5 : w9.cell? ⟨n + 1, 0, none⟩ = some (.int .i64 (q + (chrs s).length : Nat)) := hI9.ab.cell (j := 0) rfl
              have f5 : w9.frozen? ⟨n + 1, 0, none⟩ = false := hI9.ab.fz 0
              clear hI9
              go_wp2_with fail
              go_roundw
              case rel =>
                refine ⟨i + 1, putX T1 q s, q, by have := HLT.out; omega, rfl, ?_, ?_⟩
                · rw [SZ.out, HZ0.out]
                · have := I9.out.setA q (putX_in PZ.out.at_).1
                  exact ⟨this.pb.mono (fun k hk => hk) (by omega), this.bb, this.ab, this.on, this.at_, this.sz⟩
              case measure => have := HLT.out; simp [int2]; omega
            · have HZ0 := Lib.hid hz0
              have hI9 := Lib.hid (PZ.out.bad HNN.out P9.out hz0)
              obtain ⟨E, hE⟩ : ∃ E, E = putEr T1 q s := ⟨_, rfl⟩
              rw [← hE] at hz0 ⊢
              have e1 : (E == 0) = false := by simpa using hz0
              have e2 : (E = 0) = False := eq_false hz0
              have HE := Lib.hid hE
              clear hz0 hE
              go_wp2_with fail
              go_ret
              have hf : pasteF tab col T a0 ss = (E, T1, q) := by
                have h1 := pasteF_err tab col T a0 ss (i + 1) (by rw [SZ.out]; exact HZ0.out)
                rw [h1, SZ.out, ← HE.out]
                congr 2
                unfold putX; rw [if_neg HZ0.out]
              exact hI9.out.fin HNN.out hf (by have := HLT.out; omega)
    · obtain rfl : i = ss.length := by omega
      have d1 : decide ((ss.length : Int) < (ss.length : Int)) = false := decide_eq_false (by omega)
      rw [List.take_of_length_le (Nat.le_refl _)] at HST
      clear hst hpi hi hlt hlen
      go_wp2_with fail
      go_ret
      exact HPI.out.fin HNN.out HST.out (Nat.le_refl _)
end
end Go.Proofs.YtnbccoelbfgmgaaGreatDoor
/- kill.Paste: the walk. -/
namespace Go.Proofs.YtnbccoelbfgmgaaGreatDoor
open Go.RowKit Go.Lib
set_option linter.unusedVariables false
set_option linter.unusedSimpArgs false
/-- A line feed is in a string. -/
def nlB (s : ByteArray) : Bool := decide (0 ≤ Lib.indexByte s.data.toList 10)
def badS (s : ByteArray) : Bool := !vld s || nlB s
theorem crune_ok (s : ByteArray) (w : World) : Calls Tryz.prog 47 #[.string s, .int .i32 10] w fun e w' => e = .returned (.bool (nlB s)) ∧ w = w' :=
  (Any.strings_ContainsRune_ascii Tryz.laysCRune s 10 w (by omega) (by omega)).mono fun e w' ⟨h1, h2⟩ => ⟨h1, h2.symm⟩
section
variable {w : World} {N b B tab : Nat} {F : Nat → Prop} {T : Tx} {A : Option Addr} {c : Nat} {ss : List ByteArray}
/-- What Paste answers at a position within reach. -/
def PasteQ (N : Nat) (w : World) (b : Nat) (F : Nat → Prop) (T : Tx) (tab col a : Nat) (ss : List ByteArray) (B : Nat) (e : Ending) (w' : World) : Prop :=
  e = .returned (.int .i64 (if ss.any badS then 5 else (pasteF tab col T a ss).1)) ∧ Only F w w' ∧ PB N w' b (grow F w.heap.size) (if ss.any badS = false ∧ (pasteF tab col T a ss).1 = 0 then (pasteF tab col T a ss).2.1 else T) B
set_option maxRecDepth 100000 in
set_option maxHeartbeats 8000000 in
theorem Paste_ok (hT : Tabs N w) (hR : Rules N w) (h : PB N w b F T B) (hF : edF N F) (a0 : Nat) (hat : AtIn T a0) (ht1 : 1 ≤ tab) (ht2 : tab ≤ 64) (hl : ss.length ≤ 1000) (hB : B + ss.length * 12 ≤ 890000) (hG : ∀ g ∈ T.G, g.length ≤ 1000000) (hL : RSl encStr w A ss) (hz : ∀ s ∈ ss, s.size ≤ 262144) (hsep : ∀ g o z, A = some ⟨g, o, z⟩ → 0 < ss.length → ¬ F g) (hcap : colN widN T.cs tab (lineB T.cs T.S.lo a0) a0 ≤ 200000) :
    Calls Tryz.prog 13 #[pAt b, .int .i64 a0, .int .i64 tab, .slice A ss.length c] w (PasteQ N w b F T tab (colN widN T.cs tab (lineB T.cs T.S.lo a0) a0) a0 ss (B + ss.length * 12)) := by
  have HTT := Lib.hid hT
  have HRR := Lib.hid hR
  have HPB := Lib.hid h
  have HF := Lib.hid hF
  have HLL := Lib.hid hl
  have HB := Lib.hid hB
  have HG := Lib.hid hG
  have HL := Lib.hid hL
  have HN := Lib.hid h.nN
  have HAT := Lib.hid hat
  have HZS := Lib.hid hz
  have HSEP := Lib.hid hsep
  have HT1 := Lib.hid (⟨ht1, ht2⟩ : _ ∧ _)
  obtain ⟨col, hcol⟩ : ∃ col, col = colN widN T.cs tab (lineB T.cs T.S.lo a0) a0 := ⟨_, rfl⟩
  rw [← hcol] at hcap ⊢
  have HCOL := Lib.hid hcol
  have HCB := Lib.hid hcap
  have HCC := Lib.hid (column_ok h.r a0 tab ht1 ht2 hat.lo hat.hi)
  clear hsep hcap hT hR h hF hl hB hG hL hz hat ht1 ht2 hcol
  go_enter Tryz.func13, Tryz.ntmps13
  go_wp2_with fail
  refine HCC.out.mono ?_
  rintro e w1 ⟨rfl, hb1⟩
  rw [← HCOL.out]
  have B1 := Lib.hid hb1
  clear hb1 HCC
  have hlen := HLL.out
  go_wp2_with fail
  go_loopw [26] (fun vb wr => ∃ i : Nat, i ≤ ss.length ∧ vb = .int .i64 i ∧ (ss.take i).any badS = false ∧ Below w.heap.size w wr) (fun vb _ => int2 vb (.int .i64 ss.length))
  case atStart => exact ⟨0, Nat.zero_le _, rfl, rfl, B1.out⟩
  case round =>
    obtain ⟨i, hi, rfl, hno, hbel⟩ := hrel
    have HNO := Lib.hid hno
    have HBE := Lib.hid hbel
    have hlen := HLL.out
    by_cases hlt : i < ss.length
    · have d1 : decide ((i : Int) < (ss.length : Int)) = true := decide_eq_true (by omega)
      have d2 : (i < ss.length) = True := eq_true hlt
      have hlt2 : (i : Int) < ss.length := by omega
      have s1 : IntKind.i64.wrap ((i : Int) + 1) = ((i + 1 : Nat) : Int) := by rw [IntWalk.i64_in _ (by omega)]; omega
      obtain ⟨s, hs⟩ : ∃ s, ss[i]? = some s := ⟨_, List.getElem?_eq_getElem hlt⟩
      have hss := HZS.out s (List.mem_of_getElem? hs)
      obtain ⟨g, o, rfl, hg, hcg⟩ := HL.out.at_ eltStr hs
      have k0 : wr.cell? ⟨g, o + i, none⟩ = some (.string s) := by
        have := hcg 0 _ rfl
        simp only [Nat.mul_one, Nat.add_zero] at this
        exact (World.cell?_of_block (hbel.block g hg)).trans this
      have htk : ss.take (i + 1) = ss.take i ++ [s] := by rw [List.take_add_one, hs]; rfl
      have hsp : ss = ss.take i ++ s :: ss.drop (i + 1) := by
        obtain ⟨hlt', e⟩ := List.getElem?_eq_some_iff.1 hs
        rw [← e, ← List.drop_eq_getElem_cons hlt', List.take_append_drop]
      have HTK := Lib.hid htk
      have HSP := Lib.hid hsp
      have HLT := Lib.hid hlt
      have HV := Lib.hid (valid_any s wr (by omega) (HTT.out.up hbel))
      have HCR := fun w' => Lib.hid (crune_ok s w')
      have HSS := Lib.hid hss
      clear hno hbel hcg hs hss hlt htk hsp hi hg hlen
      by_cases hv : vld s = true
      · have hv2 : (vld s = true) = True := eq_true hv
        have HVV := Lib.hid hv
        rw [hv] at HV
        by_cases hn : nlB s = true
        · have HNN := Lib.hid hn
          go_wp2_with fail
          refine HV.out.mono ?_
          rintro e w2 ⟨rfl, hb2⟩
          have B2 := Lib.hid (up2 HBE.out hb2)
          clear hb2 hv2 hv
          go_wp2_with fail
          refine (HCR w2).out.mono ?_
          rintro e w3 ⟨rfl, rfl⟩
          rw [HNN.out]
          clear hn
          go_wp2_with fail
          go_ret
          have hany : ss.any badS = true := by
            rw [HSP.out, List.any_append, List.any_cons]
            unfold badS; rw [HNN.out]; simp
          unfold PasteQ
          rw [hany]
          exact ⟨rfl, Only.of_below B2.out, (HPB.out.up B2.out).mono (fun k hk => .inl hk) (by omega)⟩
        · have hn2 : nlB s = false := by simpa using hn
          have HNN := Lib.hid hn2
          clear hn hn2
          go_wp2_with fail
          refine HV.out.mono ?_
          rintro e w2 ⟨rfl, hb2⟩
          have B2 := Lib.hid (up2 HBE.out hb2)
          clear hb2 hv2 hv
          go_wp2_with fail
          refine (HCR w2).out.mono ?_
          rintro e w3 ⟨rfl, rfl⟩
          rw [HNN.out]
          go_wp2_with fail
          go_roundw
          case rel => exact ⟨i + 1, by have := HLT.out; omega, rfl, by rw [HTK.out, List.any_append, HNO.out]; simp [badS, HVV.out, HNN.out], B2.out⟩
          case measure => have := HLT.out; simp [int2]; omega
      · have hv1 : vld s = false := by simpa using hv
        have HVV := Lib.hid hv1
        rw [hv1] at HV
        clear hv hv1
        go_wp2_with fail
        refine HV.out.mono ?_
        rintro e w2 ⟨rfl, hb2⟩
        have B2 := Lib.hid (up2 HBE.out hb2)
        clear hb2
        go_wp2_with fail
        go_ret
        have hany : ss.any badS = true := by
          rw [HSP.out, List.any_append, List.any_cons]
          unfold badS; rw [HVV.out]; simp
        unfold PasteQ
        rw [hany]
        exact ⟨rfl, Only.of_below B2.out, (HPB.out.up B2.out).mono (fun k hk => .inl hk) (by omega)⟩
    · obtain rfl : i = ss.length := by omega
      have d1 : decide ((ss.length : Int) < (ss.length : Int)) = false := decide_eq_false (by omega)
      rw [List.take_of_length_le (Nat.le_refl _)] at HNO
      clear hno hbel hi hlt hlen
      go_wp2_with fail
      refine (bcopy_ok (HPB.out.up HBE.out) (by have := HB.out; omega) HG.out).mono ?_
      rintro e w2 ⟨b', t, m, p, o, l, rfl, hb', hp2, hb2⟩
      have B2 := Lib.hid (up2 HBE.out hb2)
      have C2 := Lib.hid hb2
      have hlike : Like T { T with S := { T.S with t := t, m := m, p := p, o := o, l := l } } := ⟨rfl, rfl, rfl, rfl⟩
      have hwz := HBE.out.size
      have hcall := paste_ok (c := c) (HTT.out.up (up2 HBE.out hb2)) (HRR.out.up (up2 HBE.out hb2)) hp2 (fun k hk => by have := HN.out; omega) a0 ⟨HAT.out.lo, HAT.out.hi, HAT.out.ro⟩ HT1.out.1 HT1.out.2 HLL.out HB.out (HL.out.up (up2 HBE.out hb2)) HZS.out (fun g o z e hg => by
        obtain ⟨g', o', e', hg', _⟩ := HL.out hg
        rw [e] at e'; cases e'; omega) (by dsimp only; rw [← HCOL.out]; exact HCB.out)
      have hla := hlike.pasteF tab col a0 ss
      have HLA := Lib.hid hla.1
      dsimp only at hcall
      rw [← HCOL.out] at hcall
      have HCA := Lib.hid hcall
      clear hlike hwz hcall hla hb2 hp2
      go_wp2_with fail
      refine HCA.out.mono ?_
      rintro e w3 ⟨rfl, ho3, _⟩
      rw [HLA.out]
      have hB3 : Below wr.heap.size wr w3 := C2.out.trans (ho3.below C2.out.size (fun k hk => hk))
      have B3 := Lib.hid (up2 HBE.out hB3)
      clear ho3 hB3
      by_cases h0 : (pasteF tab col T a0 ss).1 = 0
      · have H0 := Lib.hid h0
        obtain ⟨E, hE⟩ : ∃ E, E = (pasteF tab col T a0 ss).1 := ⟨_, rfl⟩
        rw [← hE] at h0 ⊢
        subst h0
        clear hE
        have hcall := paste_ok (c := c) (HTT.out.up B3.out) (HRR.out.up B3.out) (HPB.out.up B3.out) HF.out a0 HAT.out HT1.out.1 HT1.out.2 HLL.out HB.out (HL.out.up B3.out) HZS.out HSEP.out (by rw [← HCOL.out]; exact HCB.out)
        rw [← HCOL.out] at hcall
        have HCB2 := Lib.hid hcall
        clear hcall
        go_wp2_with fail
        refine HCB2.out.mono ?_
        rintro e w4 ⟨rfl, ho4, hp4⟩
        have O4 := Lib.hid ho4
        have P4 := Lib.hid hp4
        clear ho4 hp4
        go_wp2_with fail
        go_ret
        unfold PasteQ
        rw [HNO.out, if_pos (⟨rfl, H0.out⟩ : false = false ∧ (pasteF tab col T a0 ss).1 = 0), H0.out]
        exact ⟨rfl, (Only.of_below B3.out).trans O4.out, P4.out.mono (fun k hk => hk.elim (fun q => .inl q) (fun q => .inr (by have := B3.out.size; omega))) (Nat.le_refl _)⟩
      · have H0 := Lib.hid h0
        obtain ⟨E, hE⟩ : ∃ E, E = (pasteF tab col T a0 ss).1 := ⟨_, rfl⟩
        rw [← hE] at h0 ⊢
        have e1 : (E == 0) = false := by simpa using h0
        have e2 : (E = 0) = False := eq_false h0
        have HEE := Lib.hid hE
        clear hE h0
        go_wp2_with fail
        go_ret
        unfold PasteQ
        rw [HNO.out, if_neg (fun q : false = false ∧ (pasteF tab col T a0 ss).1 = 0 => H0.out q.2)]
        exact ⟨by rw [← HEE.out]; rfl, Only.of_below B3.out, (HPB.out.up B3.out).mono (fun k hk => .inl hk) (by omega)⟩
end
end Go.Proofs.YtnbccoelbfgmgaaGreatDoor
/- copyistkit.Pick. -/
namespace Go.Proofs.YtnbccoelbfgmgaaGreatDoor
open Go.RowKit
set_option linter.unusedVariables false
set_option linter.unusedSimpArgs false
/-- What copyistkit.Pick hands back. -/
def pickI (n most : Int) : Int := if most ≤ 0 then 0 else n % most
theorem pick_pos (n most : Int) (h : 0 < most) : 0 ≤ pickI n most ∧ pickI n most < most := by
  unfold pickI; rw [if_neg (by omega)]; exact ⟨Int.emod_nonneg _ (by omega), Int.emod_lt_of_pos _ h⟩

set_option maxHeartbeats 400000 in
theorem pick_any (n most : Int) (w : World) (h1 : 0 < most) (h2 : most ≤ 1000000) :
    Calls Tryz.prog 27 #[.int .i64 n, .int .i64 most] w fun e w' => e = .returned (.int .i64 (pickI n most)) ∧ w = w' := by
  have e1 : pickI n most = if n.tmod most < 0 then n.tmod most + most else n.tmod most := by
    unfold pickI
    rw [if_neg (by omega), Int.emod_eq_tmod]
    have hn : (most.natAbs : Int) = most := by omega
    by_cases h0 : 0 ≤ n
    · have := Int.tmod_nonneg most h0
      rw [if_pos (.inl h0), if_neg (by omega)]; omega
    · have hle : n.tmod most ≤ 0 := by
        have := Int.tmod_nonneg most (a := -n) (by omega)
        rw [Int.neg_tmod] at this; omega
      by_cases hd : most ∣ n
      · have := Int.tmod_eq_zero_of_dvd hd
        rw [if_pos (.inr hd), this]; simp
      · have hne : n.tmod most ≠ 0 := fun h => hd (Int.dvd_of_tmod_eq_zero h)
        rw [if_neg (by simp [hd]; omega), if_pos (by omega), hn]
  have b1 : -most < n.tmod most := by have := Int.lt_tmod_of_pos n h1; omega
  have b2 : n.tmod most < most := Int.tmod_lt_of_pos n h1
  have H1 := Lib.hid e1
  clear e1
  have hz : ¬ most = 0 := by omega
  by_cases hneg : n.tmod most < 0
  all_goals
    go_enter Tryz.func27, Tryz.ntmps27
    go_wp2
    go_ret
    exact ⟨ret_int (by rw [H1.out]; first | rw [if_pos (by omega)] | rw [if_neg (by omega)]), rfl⟩
end Go.Proofs.YtnbccoelbfgmgaaGreatDoor
