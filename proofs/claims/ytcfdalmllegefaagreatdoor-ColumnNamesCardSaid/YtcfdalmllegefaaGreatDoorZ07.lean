import Derived.Test.YtcfdalmllegefaaGreatDoorZ06
import Derived.Laws.EntriesVeiled
import Derived.Test.YtcfdalmllegefaaGreatDoorLayK
import Derived.Test.YtcfdalmllegefaaGreatDoorZ03
import Derived.Test.YtcfdalmllegefaaGreatDoorZ01
import Derived.Lib.OthersKept
/- package syntax: the table of Lisp is made. -/
namespace Go.Proofs.YtcfdalmllegefaaGreatDoor
open Go.RowKit
set_option linter.unusedVariables false
set_option linter.unusedSimpArgs false
abbrev encE (x : Int × Int) : Value := .agg #[.int .i64 x.1, .int .i64 x.2]
theorem mapTE : Tryz.prog.underlying 97 = some (.map 3 96) := Tryz.underlying97
theorem keyTE : Tryz.prog.underlying 3 = some (.int .i64) := Tryz.underlying3
theorem zeroE (w : World) : (zeroValue 96).run Tryz.prog w = .ok (encE (0, 0)) w := by kernel_rfl
/-- The characters that are special in Lisp. -/
def specL : List (Int × (Int × Int)) := putM (putM (putM (putM (putM (putM (putM (putM (putM (putM (putM [] 40 (4, 41)) 41 (5, 40)) 91 (4, 93)) 93 (5, 91)) 34 (6, 0)) 92 (7, 0)) 59 (8, 0)) 10 (9, 0)) 39 (10, 0)) 96 (10, 0)) 44 (10, 0)
/-- The table of Lisp at block tb. -/
structure LspT (w : World) (tb bs ms mo : Nat) : Prop where
  blk : Blk w tb 102 #[.func (.func 67) #[] #[pAt bs], .map (some mo)]
  cell : Blk w bs 97 #[.map (some ms)]
  spec : IM w ms encE specL
  own : IM w mo encE []
section
variable {w w' : World} {tb bs ms mo : Nat}
theorem LspT.up (h : LspT w tb bs ms mo) (hb : Below w.heap.size w w') : LspT w' tb bs ms mo := ⟨h.blk.up hb, h.cell.up hb, h.spec.kept (hb.block _ h.spec.lt), h.own.kept (hb.block _ h.own.lt)⟩
theorem LspT.only {S : Nat → Prop} (h : LspT w tb bs ms mo) (ho : Only S w w') (h1 : ¬ S tb) (h2 : ¬ S bs) (h3 : ¬ S ms) (h4 : ¬ S mo) : LspT w' tb bs ms mo := ⟨h.blk.only ho h1, h.cell.only ho h2, h.spec.kept (ho.block _ h.spec.lt h3), h.own.kept (ho.block _ h.own.lt h4)⟩
set_option maxHeartbeats 1000000 in
theorem synNew (w : World) : Calls Tryz.prog 66 #[] w fun e w' => e = .returned (pAt (w.heap.size + 1)) ∧ Below w.heap.size w w' ∧ w'.heap.size = w.heap.size + 2 ∧ Blk w' (w.heap.size + 1) 102 #[.func (.func 69) #[] #[], .map (some w.heap.size)] ∧ IM w' w.heap.size encE [] := by
  have hmm := @run_makeMap Tryz.prog
  go_enter Tryz.func66, Tryz.ntmps66
  go_wp2_with fail
  go_ret
  have h0 : (w.alloc (.map #[] 0)).heap.size = w.heap.size + 1 := by simp
  have hk := Blk.made (w.alloc (.map #[] 0)) 102 #[.func (.func 69) #[] #[], .map (some w.heap.size)]
  rw [h0] at hk
  refine ⟨rfl, below2 w _ _, by simp, hk, [], 0, ⟨?_, List.nodup_nil, List.nodup_nil, fun x hx => by cases hx⟩, rfl⟩
  exact ((MapKept.heap_alloc (w.alloc (.map #[] 0)) _).2 _ (by simp)).trans (MapKept.heap_alloc w _).1
set_option maxRecDepth 100000 in
set_option maxHeartbeats 4000000 in
theorem synLisp (w : World) : Calls Tryz.prog 14 #[] w fun e w' => ∃ tb bs ms mo, e = .returned (pAt tb) ∧ Below w.heap.size w w' ∧ LspT w' tb bs ms mo := by
  have hmm := @run_makeMap Tryz.prog
  have HM := Lib.hid hmm
  clear hmm
  go_enter Tryz.func14, Tryz.ntmps14
  go_wp2_with fail
  refine (synNew w).mono ?_
  rintro e w1 ⟨rfl, hb1, hs1, hk1, him1⟩
  have hs1' : w.heap.size + 2 ≤ w1.heap.size := Nat.le_of_eq hs1.symm
  clear hs1
  have im0 : IM (w1.alloc (.map #[] 0)) w1.heap.size encE [] := ⟨[], 0, ⟨(MapKept.heap_alloc w1 _).1, List.nodup_nil, List.nodup_nil, fun x hx => by cases hx⟩, rfl⟩
  have zz0 : (w1.alloc (.map #[] 0)).heap.size = w1.heap.size + 1 := by simp
  have hal := below1 w1 (.map #[] 0)
  have K0 := hk1.up hal
  have O0 := him1.kept (hal.block _ him1.lt)
  have b0 : Below w.heap.size w (w1.alloc (.map #[] 0)) := up2 hb1 hal
  obtain ⟨W0, hW0⟩ : ∃ W0, w1.alloc (.map #[] 0) = W0 := ⟨_, rfl⟩
  have HW := Lib.hid hW0
  have hmk := fun t => HM.out t w1
  simp only [hW0] at hmk
  rw [hW0] at im0 zz0 K0 O0 b0
  clear hW0 hal him1 hk1 hb1
  obtain ⟨W1, r0, im1, g0, y0⟩ := im0.store (P := Tryz.prog) mapTE keyTE 40 (4, 41)
  have b1 := b0.grown g0 b0.size (fun k hk => by have hk := Option.some.inj hk; omega)
  have zz1 : W1.heap.size = w1.heap.size + 1 := y0.trans zz0
  have K1 := K0.kept (g0.block _ (by omega) (by intro e; have e := Option.some.inj e; omega))
  have O1 := O0.kept (g0.block _ (by omega) (by intro e; have e := Option.some.inj e; omega))
  clear im0 g0 y0 b0 zz0 K0 O0
  obtain ⟨W2, r1, im2, g1, y1⟩ := im1.store (P := Tryz.prog) mapTE keyTE 41 (5, 40)
  have b2 := b1.grown g1 b1.size (fun k hk => by have hk := Option.some.inj hk; omega)
  have zz2 : W2.heap.size = w1.heap.size + 1 := y1.trans zz1
  have K2 := K1.kept (g1.block _ (by omega) (by intro e; have e := Option.some.inj e; omega))
  have O2 := O1.kept (g1.block _ (by omega) (by intro e; have e := Option.some.inj e; omega))
  clear im1 g1 y1 b1 zz1 K1 O1
  obtain ⟨W3, r2, im3, g2, y2⟩ := im2.store (P := Tryz.prog) mapTE keyTE 91 (4, 93)
  have b3 := b2.grown g2 b2.size (fun k hk => by have hk := Option.some.inj hk; omega)
  have zz3 : W3.heap.size = w1.heap.size + 1 := y2.trans zz2
  have K3 := K2.kept (g2.block _ (by omega) (by intro e; have e := Option.some.inj e; omega))
  have O3 := O2.kept (g2.block _ (by omega) (by intro e; have e := Option.some.inj e; omega))
  clear im2 g2 y2 b2 zz2 K2 O2
  obtain ⟨W4, r3, im4, g3, y3⟩ := im3.store (P := Tryz.prog) mapTE keyTE 93 (5, 91)
  have b4 := b3.grown g3 b3.size (fun k hk => by have hk := Option.some.inj hk; omega)
  have zz4 : W4.heap.size = w1.heap.size + 1 := y3.trans zz3
  have K4 := K3.kept (g3.block _ (by omega) (by intro e; have e := Option.some.inj e; omega))
  have O4 := O3.kept (g3.block _ (by omega) (by intro e; have e := Option.some.inj e; omega))
  clear im3 g3 y3 b3 zz3 K3 O3
  obtain ⟨W5, r4, im5, g4, y4⟩ := im4.store (P := Tryz.prog) mapTE keyTE 34 (6, 0)
  have b5 := b4.grown g4 b4.size (fun k hk => by have hk := Option.some.inj hk; omega)
  have zz5 : W5.heap.size = w1.heap.size + 1 := y4.trans zz4
  have K5 := K4.kept (g4.block _ (by omega) (by intro e; have e := Option.some.inj e; omega))
  have O5 := O4.kept (g4.block _ (by omega) (by intro e; have e := Option.some.inj e; omega))
  clear im4 g4 y4 b4 zz4 K4 O4
  obtain ⟨W6, r5, im6, g5, y5⟩ := im5.store (P := Tryz.prog) mapTE keyTE 92 (7, 0)
  have b6 := b5.grown g5 b5.size (fun k hk => by have hk := Option.some.inj hk; omega)
  have zz6 : W6.heap.size = w1.heap.size + 1 := y5.trans zz5
  have K6 := K5.kept (g5.block _ (by omega) (by intro e; have e := Option.some.inj e; omega))
  have O6 := O5.kept (g5.block _ (by omega) (by intro e; have e := Option.some.inj e; omega))
  clear im5 g5 y5 b5 zz5 K5 O5
  obtain ⟨W7, r6, im7, g6, y6⟩ := im6.store (P := Tryz.prog) mapTE keyTE 59 (8, 0)
  have b7 := b6.grown g6 b6.size (fun k hk => by have hk := Option.some.inj hk; omega)
  have zz7 : W7.heap.size = w1.heap.size + 1 := y6.trans zz6
  have K7 := K6.kept (g6.block _ (by omega) (by intro e; have e := Option.some.inj e; omega))
  have O7 := O6.kept (g6.block _ (by omega) (by intro e; have e := Option.some.inj e; omega))
  clear im6 g6 y6 b6 zz6 K6 O6
  obtain ⟨W8, r7, im8, g7, y7⟩ := im7.store (P := Tryz.prog) mapTE keyTE 10 (9, 0)
  have b8 := b7.grown g7 b7.size (fun k hk => by have hk := Option.some.inj hk; omega)
  have zz8 : W8.heap.size = w1.heap.size + 1 := y7.trans zz7
  have K8 := K7.kept (g7.block _ (by omega) (by intro e; have e := Option.some.inj e; omega))
  have O8 := O7.kept (g7.block _ (by omega) (by intro e; have e := Option.some.inj e; omega))
  clear im7 g7 y7 b7 zz7 K7 O7
  obtain ⟨W9, r8, im9, g8, y8⟩ := im8.store (P := Tryz.prog) mapTE keyTE 39 (10, 0)
  have b9 := b8.grown g8 b8.size (fun k hk => by have hk := Option.some.inj hk; omega)
  have zz9 : W9.heap.size = w1.heap.size + 1 := y8.trans zz8
  have K9 := K8.kept (g8.block _ (by omega) (by intro e; have e := Option.some.inj e; omega))
  have O9 := O8.kept (g8.block _ (by omega) (by intro e; have e := Option.some.inj e; omega))
  clear im8 g8 y8 b8 zz8 K8 O8
  obtain ⟨W10, r9, im10, g9, y9⟩ := im9.store (P := Tryz.prog) mapTE keyTE 96 (10, 0)
  have b10 := b9.grown g9 b9.size (fun k hk => by have hk := Option.some.inj hk; omega)
  have zz10 : W10.heap.size = w1.heap.size + 1 := y9.trans zz9
  have K10 := K9.kept (g9.block _ (by omega) (by intro e; have e := Option.some.inj e; omega))
  have O10 := O9.kept (g9.block _ (by omega) (by intro e; have e := Option.some.inj e; omega))
  clear im9 g9 y9 b9 zz9 K9 O9
  obtain ⟨W11, r10, im11, g10, y10⟩ := im10.store (P := Tryz.prog) mapTE keyTE 44 (10, 0)
  have b11 := b10.grown g10 b10.size (fun k hk => by have hk := Option.some.inj hk; omega)
  have zz11 : W11.heap.size = w1.heap.size + 1 := y10.trans zz10
  have K11 := K10.kept (g10.block _ (by omega) (by intro e; have e := Option.some.inj e; omega))
  have O11 := O10.kept (g10.block _ (by omega) (by intro e; have e := Option.some.inj e; omega))
  clear im10 g10 y10 b10 zz10 K10 O10
  have zr : w1.heap.size + 1 ≤ W11.heap.size := Nat.le_of_eq zz11.symm
  have zr2 := Lib.hid zz11
  have HIM := Lib.hid im11
  have HB := Lib.hid b11
  have HK := Lib.hid K11
  have HO := Lib.hid O11
  clear zz11 im11 b11 K11 O11
  have c0 := HK.out.cell (j := 0) rfl
  have f0 := HK.out.fz 0
  have hlt : w.heap.size + 1 < W11.heap.size := by omega
  go_wp2_with fail
  go_ret
  have zW : W11.heap.size = w1.heap.size + 1 := zr2.out
  have hal := below1 (W11.setCell ⟨w.heap.size + 1, 0, none⟩ (.func (.func 67) #[] #[pAt W11.heap.size])) (.cells #[.map (some w1.heap.size)] 97)
  have hsz : (W11.setCell ⟨w.heap.size + 1, 0, none⟩ (.func (.func 67) #[] #[pAt W11.heap.size])).heap.size = W11.heap.size := by simp
  have hk := Blk.made (W11.setCell ⟨w.heap.size + 1, 0, none⟩ (.func (.func 67) #[] #[pAt W11.heap.size])) 97 #[.map (some w1.heap.size)]
  rw [hsz] at hk
  refine ⟨w.heap.size + 1, W11.heap.size, w1.heap.size, w.heap.size, rfl, ?_, ?_, hk, ?_, ?_⟩
  · exact (HB.out.setCell (p := ⟨w.heap.size + 1, 0, none⟩) (by show w.heap.size ≤ w.heap.size + 1; omega) _).trans (hal.mono (by rw [hsz]; exact HB.out.size))
  · exact (HK.out.set (j := 0) (by simp) (.func (.func 67) #[] #[pAt W11.heap.size])).up hal
  · exact (HIM.out.kept (Below.heap_setCell _ _ _ _ (by show w1.heap.size ≠ w.heap.size + 1; omega))).kept (hal.block _ (by rw [hsz]; exact HIM.out.lt))
  · exact (HO.out.kept (Below.heap_setCell _ _ _ _ (by show w.heap.size ≠ w.heap.size + 1; omega))).kept (hal.block _ (by rw [hsz]; exact HO.out.lt))
end
end Go.Proofs.YtcfdalmllegefaaGreatDoor
/- package syntax: plain, the rule of Lisp, entry, Class, Copy. -/
namespace Go.Proofs.YtcfdalmllegefaaGreatDoor
open Go.RowKit
set_option linter.unusedVariables false
set_option linter.unusedSimpArgs false
def plainC (c : Nat) : Int := if c = 9 ∨ c = 10 ∨ c = 12 ∨ c = 13 ∨ c = 32 then 3 else if inS c wordL then 1 else 0
abbrev symS : ByteArray := ⟨#[45, 43, 42, 47, 60, 62, 61, 33, 63, 36, 37, 38, 95, 126, 94, 58, 123, 125, 124, 46, 64, 35]⟩
def symB (c : Nat) : Bool := decide (0 ≤ Lib.indexByte symS.data.toList ((c : Int).toNat.toUInt8))
def lispE (c : Nat) : Int × Int := match lookM specL c with
  | some x => x
  | none => if 32 < c ∧ c < 127 ∧ symB c = true then (2, 0) else (plainC c, 0)
def lispC (c : Nat) : Int := (lispE c).1
section
variable {w w' : World} {tb bs ms mo : Nat}
theorem eqb (c k : Nat) (h : c ≠ k) : ((c : Int) == (k : Int)) = false := by simp; omega
set_option maxRecDepth 100000 in
set_option maxHeartbeats 2000000 in
theorem plain_ok (c : Nat) (w : World) : Calls Tryz.prog 69 #[.int .i64 c] w fun e w' => e = .returned (.agg #[.int .i64 (plainC c), .int .i64 0]) ∧ Below w.heap.size w w' := by
  unfold plainC
  have hb := below1 w (.cells #[.int .i64 0, .int .i64 0] 96)
  have hk := Blk.made w 96 #[.int .i64 0, .int .i64 0]
  have HK := Lib.hid hk
  have HB := Lib.hid hb
  clear hk hb
  by_cases hsp : c = 9 ∨ c = 10 ∨ c = 12 ∨ c = 13 ∨ c = 32
  · rw [if_pos hsp]
    have hfin : ∀ (W : World), W = w.alloc (.cells #[.int .i64 3, .int .i64 0] 96) → W.cell? ⟨w.heap.size, 0, none⟩ = some (.int .i64 3) ∧ W.cell? ⟨w.heap.size, 1, none⟩ = some (.int .i64 0) := fun W hW => by
      subst hW
      exact ⟨(Blk.made w 96 #[.int .i64 3, .int .i64 0]).cell (j := 0) rfl, (Blk.made w 96 #[.int .i64 3, .int .i64 0]).cell (j := 1) rfl⟩
    obtain ⟨k0, k1⟩ := hfin _ rfl
    clear hfin
    rcases hsp with rfl | rfl | rfl | rfl | rfl
    all_goals
      go_enter Tryz.func69, Tryz.ntmps69
      go_wp2_with fail
      refine bodyPost_ret (v := .agg #[.int .i64 3, .int .i64 0]) (by simp [results, Tryz.f69, go_sem, k0, k1]) rfl ?_
      exact ⟨rfl, below1 w _⟩
  · rw [if_neg hsp]
    have e1 : ((c : Int) == (9 : Int)) = false := by simp; omega
    have e2 : ((c : Int) == (10 : Int)) = false := by simp; omega
    have e3 : ((c : Int) == (12 : Int)) = false := by simp; omega
    have e4 : ((c : Int) == (13 : Int)) = false := by simp; omega
    have e5 : ((c : Int) == (32 : Int)) = false := by simp; omega
    have HW := Lib.hid fun W => word_ok c W
    clear hsp
    cases hw : inS c wordL with
    | true =>
      rw [hw] at HW
      simp only [if_true]
      go_enter Tryz.func69, Tryz.ntmps69
      go_wp2_with fail
      refine (HW.out _).mono ?_
      rintro e w1 ⟨rfl, hb1⟩
      have hk1 := HK.out.up hb1
      have k0 := hk1.cell (j := 0) rfl
      have k1 := hk1.cell (j := 1) rfl
      have f0 := hk1.fz 0
      have f1 := hk1.fz 1
      go_wp2_with fail
      have hk2 := (hk1.set (j := 0) (by simp) (.int .i64 1)).set (j := 1) (by simp) (.int .i64 0)
      have k0 := hk2.cell (j := 0) rfl
      have k1 := hk2.cell (j := 1) rfl
      refine bodyPost_ret (v := .agg #[.int .i64 1, .int .i64 0]) (by simp [results, Tryz.f69, go_sem, k0, k1]) rfl ?_
      exact ⟨rfl, ((HB.out.trans (hb1.mono HB.out.size)).setCell (p := ⟨w.heap.size, 0, none⟩) (Nat.le_refl _) _).setCell (p := ⟨w.heap.size, 1, none⟩) (Nat.le_refl _) _⟩
    | false =>
      rw [hw] at HW
      simp only [Bool.false_eq_true, if_false]
      go_enter Tryz.func69, Tryz.ntmps69
      go_wp2_with fail
      refine (HW.out _).mono ?_
      rintro e w1 ⟨rfl, hb1⟩
      have hk1 := HK.out.up hb1
      have k0 := hk1.cell (j := 0) rfl
      have k1 := hk1.cell (j := 1) rfl
      have f0 := hk1.fz 0
      have f1 := hk1.fz 1
      go_wp2_with fail
      have hk2 := (hk1.set (j := 0) (by simp) (.int .i64 0)).set (j := 1) (by simp) (.int .i64 0)
      have k0 := hk2.cell (j := 0) rfl
      have k1 := hk2.cell (j := 1) rfl
      refine bodyPost_ret (v := .agg #[.int .i64 0, .int .i64 0]) (by simp [results, Tryz.f69, go_sem, k0, k1]) rfl ?_
      exact ⟨rfl, ((HB.out.trans (hb1.mono HB.out.size)).setCell (p := ⟨w.heap.size, 0, none⟩) (Nat.le_refl _) _).setCell (p := ⟨w.heap.size, 1, none⟩) (Nat.le_refl _) _⟩
theorem lookSpec (h : LspT w tb bs ms mo) (c : Nat) : (∃ x, lookM specL c = some x ∧ (Instr.lookup 97 (.map (some ms)) (.int .i64 c) true).run Tryz.prog w = .ok (.tuple #[.agg #[.int .i64 x.1, .int .i64 x.2], .bool true]) w) ∨
    (lookM specL c = none ∧ (Instr.lookup 97 (.map (some ms)) (.int .i64 c) true).run Tryz.prog w = .ok (.tuple #[.agg #[.int .i64 0, .int .i64 0], .bool false]) w) := by
  cases hx : lookM specL c with
  | some x => exact .inl ⟨x, rfl, h.spec.look_some mapTE keyTE hx true⟩
  | none => exact .inr ⟨rfl, h.spec.look_none mapTE keyTE hx true (zeroE w)⟩
theorem u8wrap (c : Nat) (h : c < 127) : IntKind.u8.wrap (c : Int) = (c : Int) := by
  simp only [IntKind.wrap, IntKind.bits, IntKind.signed]
  first | omega | (simp; omega)
set_option maxRecDepth 100000 in
set_option maxHeartbeats 4000000 in
theorem rule_ok (h : LspT w tb bs ms mo) (c : Nat) : Calls Tryz.prog 67 #[.int .i64 c, pAt bs] w fun e w' => e = .returned (.agg #[.int .i64 (lispE c).1, .int .i64 (lispE c).2]) ∧ Below w.heap.size w w' := by
  have hb := below1 w (.cells #[.int .i64 0, .int .i64 0] 96)
  have hk := Blk.made w 96 #[.int .i64 0, .int .i64 0]
  have h1 := h.up hb
  have hsz : (w.alloc (.cells #[.int .i64 0, .int .i64 0] 96)).heap.size = w.heap.size + 1 := by simp
  have HB := Lib.hid hb
  have HK := Lib.hid hk
  have H1 := Lib.hid h1
  have HP := Lib.hid fun W => plain_ok c W
  have hbs := h.cell.lt
  have q0 := h.cell.cell (j := 0) rfl
  unfold lispE
  rcases lookSpec h1 c with ⟨x, hx, hl⟩ | ⟨hx, hl⟩
  · rw [hx]
    obtain ⟨a, b⟩ := x
    clear h h1 hb hk hx hsz
    go_enter Tryz.func67, Tryz.ntmps67
    go_wp2_with fail
    have k0 : ((w.alloc (.cells #[.int .i64 a, .int .i64 b] 96)).alloc (.cells #[.int .i64 a, .int .i64 b] 96)).cell? ⟨w.heap.size, 0, none⟩ = some (.int .i64 a) := ((Blk.made w 96 #[.int .i64 a, .int .i64 b]).up (below1 _ _)).cell (j := 0) rfl
    have k1 : ((w.alloc (.cells #[.int .i64 a, .int .i64 b] 96)).alloc (.cells #[.int .i64 a, .int .i64 b] 96)).cell? ⟨w.heap.size, 1, none⟩ = some (.int .i64 b) := ((Blk.made w 96 #[.int .i64 a, .int .i64 b]).up (below1 _ _)).cell (j := 1) rfl
    refine bodyPost_ret (v := .agg #[.int .i64 a, .int .i64 b]) (by simp [results, Tryz.f67, go_sem, k0, k1]) rfl ?_
    exact ⟨rfl, below2 w _ _⟩
  · rw [hx]
    simp only []
    have HB2 := Lib.hid (below2 w (.cells #[.int .i64 0, .int .i64 0] 96) (.cells #[.int .i64 0, .int .i64 0] 96))
    have HK2 := Lib.hid (hk.up (below1 _ (.cells #[.int .i64 0, .int .i64 0] 96)))
    clear h h1 hb hk hx hsz
    by_cases hr : 32 < c ∧ c < 127
    · have d1 : decide ((32 : Int) < (c : Int)) = true := decide_eq_true (by omega)
      have d2 : decide ((c : Int) < 127) = true := decide_eq_true (by omega)
      have hu := u8wrap c hr.2
      have HI := Lib.hid fun W => (show Calls Tryz.prog 68 #[.string symS, .int .u8 c] W _ from Any.strings_IndexByte Tryz.laysIdx symS c W)
      cases hsym : symB c with
      | true =>
        rw [if_pos ⟨hr.1, hr.2, rfl⟩]
        have d3 : decide ((0 : Int) ≤ Lib.indexByte symS.data.toList ((c : Int).toNat.toUInt8)) = true := hsym
        clear hr hsym
        go_enter Tryz.func67, Tryz.ntmps67
        go_wp2_with fail
        refine (HI.out _).mono ?_
        rintro e w3 ⟨rfl, rfl⟩
        generalize Lib.indexByte symS.data.toList ((c : Int).toNat.toUInt8) = R at *
        go_wp2_with fail
        have k0 : ((w.alloc (.cells #[.int .i64 2, .int .i64 0] 96)).alloc (.cells #[.int .i64 0, .int .i64 0] 96)).cell? ⟨w.heap.size, 0, none⟩ = some (.int .i64 2) := ((Blk.made w 96 #[.int .i64 2, .int .i64 0]).up (below1 _ _)).cell (j := 0) rfl
        have k1 : ((w.alloc (.cells #[.int .i64 2, .int .i64 0] 96)).alloc (.cells #[.int .i64 0, .int .i64 0] 96)).cell? ⟨w.heap.size, 1, none⟩ = some (.int .i64 0) := ((Blk.made w 96 #[.int .i64 2, .int .i64 0]).up (below1 _ _)).cell (j := 1) rfl
        refine bodyPost_ret (v := .agg #[.int .i64 2, .int .i64 0]) (by simp [results, Tryz.f67, go_sem, k0, k1]) rfl ?_
        exact ⟨rfl, below2 w _ _⟩
      | false =>
        rw [if_neg (by simp)]
        have d3 : decide ((0 : Int) ≤ Lib.indexByte symS.data.toList ((c : Int).toNat.toUInt8)) = false := hsym
        clear hr hsym
        go_enter Tryz.func67, Tryz.ntmps67
        go_wp2_with fail
        refine (HI.out _).mono ?_
        rintro e w3 ⟨rfl, rfl⟩
        generalize Lib.indexByte symS.data.toList ((c : Int).toNat.toUInt8) = R at *
        go_wp2_with fail
        refine (HP.out _).mono ?_
        rintro e w3 ⟨rfl, hb3⟩
        have hk3 := HK2.out.up hb3
        have k0 := hk3.cell (j := 0) rfl
        have k1 := hk3.cell (j := 1) rfl
        have f0 := hk3.fz 0
        have f1 := hk3.fz 1
        go_wp2_with fail
        have hk4 := (hk3.set (j := 0) (by simp) (.int .i64 (plainC c))).set (j := 1) (by simp) (.int .i64 0)
        have k0 := hk4.cell (j := 0) rfl
        have k1 := hk4.cell (j := 1) rfl
        refine bodyPost_ret (v := .agg #[.int .i64 (plainC c), .int .i64 0]) (by simp [results, Tryz.f67, go_sem, k0, k1]) rfl ?_
        exact ⟨rfl, ((HB2.out.trans (hb3.mono HB2.out.size)).setCell (p := ⟨w.heap.size, 0, none⟩) (Nat.le_refl _) _).setCell (p := ⟨w.heap.size, 1, none⟩) (Nat.le_refl _) _⟩
    · rw [if_neg (by omega)]
      by_cases h32 : 32 < c
      · have d1 : decide ((32 : Int) < (c : Int)) = true := decide_eq_true (by omega)
        have d2 : decide ((c : Int) < 127) = false := decide_eq_false (by omega)
        clear hr h32
        go_enter Tryz.func67, Tryz.ntmps67
        go_wp2_with fail
        refine (HP.out _).mono ?_
        rintro e w3 ⟨rfl, hb3⟩
        have hk3 := HK2.out.up hb3
        have k0 := hk3.cell (j := 0) rfl
        have k1 := hk3.cell (j := 1) rfl
        have f0 := hk3.fz 0
        have f1 := hk3.fz 1
        go_wp2_with fail
        have hk4 := (hk3.set (j := 0) (by simp) (.int .i64 (plainC c))).set (j := 1) (by simp) (.int .i64 0)
        have k0 := hk4.cell (j := 0) rfl
        have k1 := hk4.cell (j := 1) rfl
        refine bodyPost_ret (v := .agg #[.int .i64 (plainC c), .int .i64 0]) (by simp [results, Tryz.f67, go_sem, k0, k1]) rfl ?_
        exact ⟨rfl, ((HB2.out.trans (hb3.mono HB2.out.size)).setCell (p := ⟨w.heap.size, 0, none⟩) (Nat.le_refl _) _).setCell (p := ⟨w.heap.size, 1, none⟩) (Nat.le_refl _) _⟩
      · have d1 : decide ((32 : Int) < (c : Int)) = false := decide_eq_false (by omega)
        clear hr h32
        go_enter Tryz.func67, Tryz.ntmps67
        go_wp2_with fail
        refine (HP.out _).mono ?_
        rintro e w3 ⟨rfl, hb3⟩
        have hk3 := HK2.out.up hb3
        have k0 := hk3.cell (j := 0) rfl
        have k1 := hk3.cell (j := 1) rfl
        have f0 := hk3.fz 0
        have f1 := hk3.fz 1
        go_wp2_with fail
        have hk4 := (hk3.set (j := 0) (by simp) (.int .i64 (plainC c))).set (j := 1) (by simp) (.int .i64 0)
        have k0 := hk4.cell (j := 0) rfl
        have k1 := hk4.cell (j := 1) rfl
        refine bodyPost_ret (v := .agg #[.int .i64 (plainC c), .int .i64 0]) (by simp [results, Tryz.f67, go_sem, k0, k1]) rfl ?_
        exact ⟨rfl, ((HB2.out.trans (hb3.mono HB2.out.size)).setCell (p := ⟨w.heap.size, 0, none⟩) (Nat.le_refl _) _).setCell (p := ⟨w.heap.size, 1, none⟩) (Nat.le_refl _) _⟩
end
end Go.Proofs.YtcfdalmllegefaaGreatDoor
/- package syntax: none, entry, Class, Copy, of the table of Lisp. -/
namespace Go.Proofs.YtcfdalmllegefaaGreatDoor
open Go.RowKit
set_option linter.unusedVariables false
set_option linter.unusedSimpArgs false
section
variable {w w' : World} {tb bs ms mo : Nat}
theorem eqlFn (F : FuncId) (cp : Array Value) (w : World) : (binOp .eql 100 (.func (.func F) #[] cp) .nilFunc).run Tryz.prog w = .ok (.bool false) w := by kernel_rfl
set_option maxRecDepth 100000 in
set_option maxHeartbeats 1000000 in
theorem tnone_ok (h : LspT w tb bs ms mo) : Calls Tryz.prog 139 #[pAt tb] w fun e w' => e = .returned (.bool false) ∧ w = w' := by
  have c0 := h.blk.cell (j := 0) rfl
  have he := eqlFn 67 #[pAt bs]
  clear h
  go_enter Tryz.func139, Tryz.ntmps139
  go_wp2_with fail
  go_ret
  exact ⟨rfl, rfl⟩
set_option maxRecDepth 100000 in
set_option maxHeartbeats 4000000 in
theorem entry_ok (h : LspT w tb bs ms mo) (c : Nat) (hc : isN c) : Calls Tryz.prog 151 #[pAt tb, .int .i64 c] w fun e w' => e = .returned (.agg #[.int .i64 (lispE c).1, .int .i64 (lispE c).2]) ∧ Below w.heap.size w w' := by
  have hb := below1 w (.cells #[.int .i64 0, .int .i64 0] 96)
  have hk := Blk.made w 96 #[.int .i64 0, .int .i64 0]
  have h1 := h.up hb
  have HI := Lib.hid fun W => is_ok c hc W
  have HN := Lib.hid (tnone_ok h1)
  have H1 := Lib.hid h1
  have HK := Lib.hid hk
  have HB := Lib.hid hb
  obtain ⟨x, hx⟩ : ∃ x, (lispE c).1 = x := ⟨_, rfl⟩
  obtain ⟨y, hy⟩ : ∃ y, (lispE c).2 = y := ⟨_, rfl⟩
  have HX := Lib.hid (And.intro hx hy)
  rw [hx, hy]
  clear hx hy
  have hE := enters_mk Tryz.func67 (by kernel_rfl) rfl
  have hin : ∀ (args : Array Value) (w : World), (callFunc 67 args).run Tryz.prog w = .ok (.enter 67 args) w := hE
  clear h h1 hb hk hc hE
  go_enter Tryz.func151, Tryz.ntmps151
  go_wp2_with fail
  refine HN.out.mono ?_
  rintro e w1 ⟨rfl, rfl⟩
  go_wp2_with fail
  refine (HI.out _).mono ?_
  rintro e w1 ⟨rfl, rfl⟩
  have q1 := H1.out.blk.cell (j := 1) rfl
  have q0 := H1.out.blk.cell (j := 0) rfl
  have hlook := H1.out.own.look_none (P := Tryz.prog) mapTE keyTE (k := (c : Int)) (by rfl) true (zeroE _)
  have htb := H1.out.blk.lt
  generalize w.alloc (.cells #[.int .i64 0, .int .i64 0] 96) = W at *
  go_wp2_with fail
  have hb2 := below1 W (.cells #[.int .i64 0, .int .i64 0] 96)
  have hru := rule_ok (H1.out.up hb2) c
  rw [HX.out.1, HX.out.2] at hru
  refine hru.mono ?_
  rintro e w3 ⟨rfl, hb3⟩
  have hk3 := (HK.out.up hb2).up hb3
  have k0 := hk3.cell (j := 0) rfl
  have k1 := hk3.cell (j := 1) rfl
  have f0 := hk3.fz 0
  have f1 := hk3.fz 1
  go_wp2_with fail
  have hk4 := (hk3.set (j := 0) (by simp) (.int .i64 x)).set (j := 1) (by simp) (.int .i64 y)
  have k0 := hk4.cell (j := 0) rfl
  have k1 := hk4.cell (j := 1) rfl
  refine bodyPost_ret (v := .agg #[.int .i64 x, .int .i64 y]) (by simp [results, Tryz.f151, go_sem, k0, k1]) rfl ?_
  have hb4 : Below w.heap.size w w3 := up2 (up2 HB.out hb2) hb3
  exact ⟨rfl, (hb4.setCell (p := ⟨w.heap.size, 0, none⟩) (Nat.le_refl _) _).setCell (p := ⟨w.heap.size, 1, none⟩) (Nat.le_refl _) _⟩
theorem fieldE0 (x y : Int) (w : World) : (Instr.field 96 (.agg #[.int .i64 x, .int .i64 y]) 0).run Tryz.prog w = .ok (.int .i64 x) w := by kernel_rfl
set_option maxHeartbeats 1000000 in
theorem class_ok (h : LspT w tb bs ms mo) (c : Nat) (hc : isN c) : Calls Tryz.prog 63 #[pAt tb, .int .i64 c] w fun e w' => e = .returned (.int .i64 (lispC c)) ∧ Below w.heap.size w w' := by
  have HE := Lib.hid (entry_ok h c hc)
  unfold lispC
  generalize (lispE c).1 = x at *
  generalize (lispE c).2 = y at *
  have hf := fieldE0 x y
  clear h hc
  go_enter Tryz.func63, Tryz.ntmps63
  go_wp2_with fail
  refine HE.out.mono ?_
  rintro e w1 ⟨rfl, hb1⟩
  go_wp2_with fail
  go_ret
  exact ⟨rfl, hb1⟩
set_option maxRecDepth 100000 in
set_option maxHeartbeats 2000000 in
theorem tcopy_ok (h : LspT w tb bs ms mo) : Calls Tryz.prog 59 #[pAt tb] w fun e w' => ∃ k, e = .returned (pAt k) ∧ Below w.heap.size w w' := by
  have HN := Lib.hid (tnone_ok h)
  have H := Lib.hid h
  have c0 := h.blk.cell (j := 0) rfl
  have c1 := h.blk.cell (j := 1) rfl
  have htb := h.blk.lt
  have hmm := @run_makeMap Tryz.prog
  have hb2 := below2 w (.map #[] 0) (.cells #[.func (.func 67) #[] #[pAt bs], .map (some w.heap.size)] 102)
  obtain ⟨w3, hrange, hir, hb3, _⟩ := (H.out.up hb2).own.range (P := Tryz.prog) mapTE
  have hz2 : ((w.alloc (.map #[] 0)).alloc (.cells #[.func (.func 67) #[] #[pAt bs], .map (some w.heap.size)] 102)).heap.size = w.heap.size + 1 + 1 := by simp
  rw [hz2] at hir
  clear h hz2
  go_enter Tryz.func59, Tryz.ntmps59
  go_wp2_with fail
  refine HN.out.mono ?_
  rintro e w1 ⟨rfl, rfl⟩
  go_wp2_with fail
  clear hrange
  go_loopw [4] (fun _ wr => w3 = wr) (fun _ _ => 0)
  case atStart => rfl
  case round =>
    subst hrel
    rcases hir.next (P := Tryz.prog) with ⟨h0, hnx⟩ | ⟨k, v, w4, hk, _⟩
    · go_wp2_with fail
      go_ret
      exact ⟨_, rfl, up2 hb2 hb3⟩
    · cases hk
end
end Go.Proofs.YtcfdalmllegefaaGreatDoor
/- The positions of line feeds: plain laws. -/
namespace Go.Proofs.YtcfdalmllegefaaGreatDoor
set_option linter.unusedVariables false
set_option linter.unusedSimpArgs false
/-- The positions of line feeds, the first character being at k. -/
def feedsF : Nat → List Nat → List Int
  | _, [] => []
  | k, c :: cs => if c = 10 then (k : Int) :: feedsF (k + 1) cs else feedsF (k + 1) cs
def feeds (cs : List Nat) : List Int := feedsF 1 cs
theorem feedsF_append : ∀ (a b : List Nat) (k : Nat), feedsF k (a ++ b) = feedsF k a ++ feedsF (k + a.length) b
  | [], b, k => rfl
  | c :: a, b, k => by
    simp only [List.cons_append, feedsF, feedsF_append a b (k + 1), List.length_cons, show k + 1 + a.length = k + (a.length + 1) by omega]
    split <;> rfl
theorem feedsF_shift : ∀ (cs : List Nat) (k n : Nat), feedsF (k + n) cs = (feedsF k cs).map (fun z => z + (n : Int))
  | [], k, n => rfl
  | c :: cs, k, n => by
    simp only [feedsF, show k + n + 1 = (k + 1) + n by omega, feedsF_shift cs (k + 1) n]
    split
    · rw [List.map_cons]; simp
    · rfl
theorem feedsF_mem : ∀ (cs : List Nat) (k : Nat) (z : Int), z ∈ feedsF k cs → (k : Int) ≤ z ∧ z < (k : Int) + cs.length
  | [], k, z, h => by simp [feedsF] at h
  | c :: cs, k, z, h => by
    simp only [feedsF] at h
    rw [List.length_cons]
    split at h
    · rcases List.mem_cons.1 h with rfl | h
      · omega
      · have := feedsF_mem cs (k + 1) z h; omega
    · have := feedsF_mem cs (k + 1) z h; omega
theorem feedsF_sorted : ∀ (cs : List Nat) (k : Nat), (feedsF k cs).Pairwise (· < ·)
  | [], k => List.Pairwise.nil
  | c :: cs, k => by
    simp only [feedsF]
    split
    · exact List.pairwise_cons.2 ⟨fun z hz => by have := (feedsF_mem cs (k + 1) z hz).1; omega, feedsF_sorted cs (k + 1)⟩
    · exact feedsF_sorted cs (k + 1)
theorem feedsF_len : ∀ (cs : List Nat) (k : Nat), (feedsF k cs).length ≤ cs.length
  | [], k => Nat.le_refl _
  | c :: cs, k => by
    simp only [feedsF, List.length_cons]
    have := feedsF_len cs (k + 1)
    split
    · rw [List.length_cons]; omega
    · omega
/-- Where a position stands among the feeds. -/
theorem feeds_count (a b : List Nat) (at_ : Int) (h : at_ = a.length + 1) : (feeds (a ++ b)).countP (· < at_) = (feeds a).length := by
  unfold feeds
  rw [feedsF_append, List.countP_append, List.countP_eq_length.2, List.countP_eq_zero.2]
  · rfl
  · intro z hz
    have := feedsF_mem b (1 + a.length) z hz
    simp; omega
  · intro z hz
    have := feedsF_mem a 1 z hz
    simp; omega
theorem feeds_ins (a m b : List Nat) : feeds (a ++ m ++ b) = feeds a ++ feedsF (1 + a.length) m ++ (feedsF (1 + a.length) b).map (fun z => z + (m.length : Int)) := by
  unfold feeds
  rw [feedsF_append, feedsF_append, List.length_append, ← Nat.add_assoc, feedsF_shift b (1 + a.length) m.length]
theorem feeds_split (a b : List Nat) : feeds (a ++ b) = feeds a ++ feedsF (1 + a.length) b := feedsF_append a b 1
theorem feeds_del (a m b : List Nat) : feeds (a ++ b) = feeds a ++ (feedsF (1 + a.length + m.length) b).map (fun z => z - (m.length : Int)) := by
  rw [feeds_split, feedsF_shift b (1 + a.length) m.length, List.map_map]
  congr 1
  conv => lhs; rw [← List.map_id (feedsF (1 + a.length) b)]
  exact List.map_congr_left fun z _ => by simp [Function.comp]
theorem feedsF_snoc (cs : List Nat) (c k : Nat) : feedsF k (cs ++ [c]) = feedsF k cs ++ (if c = 10 then [((k + cs.length : Nat) : Int)] else []) := by
  rw [feedsF_append]
  simp only [feedsF]
end Go.Proofs.YtcfdalmllegefaaGreatDoor
/- gap.Insert at a fresh text. -/
namespace Go.Proofs.YtcfdalmllegefaaGreatDoor
open Go.RowKit
set_option linter.unusedVariables false
set_option linter.unusedSimpArgs false
/-- A mark at which a walk stands still. -/
def Mk (p : Prop) : Prop := p
theorem mk_in {p : Prop} (h : Mk p) : p := h
section
variable {w w' : World} {t g : Nat}
set_option maxHeartbeats 1000000 in
theorem gnone0 {cs : Array Value} {L cap : Nat} (h : Blk w t 192 cs) (hc : cs[0]? = some (.slice (some ⟨g, 0, none⟩) L cap)) : Calls Tryz.prog 193 #[.pointer (some ⟨t, 0, none⟩)] w fun e w' => e = .returned (.bool false) ∧ w = w' := by
  have c0 := h.cell hc
  have hn := Lib.run_eql_slice_nil (P := Tryz.prog) w 190 21 (some ⟨g, 0, none⟩) L cap 0 0 Tryz.underlying190
  clear h hc
  go_enter Tryz.func193, Tryz.ntmps193
  go_wp2_with fail
  go_ret
  exact ⟨rfl, rfl⟩
set_option maxHeartbeats 1000000 in
theorem gsize0 (f : Value) (h : Blk w t 192 (txtC g 0 0 0 0 f)) : Calls Tryz.prog 154 #[.pointer (some ⟨t, 0, none⟩)] w fun e w' => e = .returned (.int .i64 0) ∧ Below w.heap.size w w' := by
  have HN := Lib.hid (gnone0 h rfl)
  have c0 := h.cell (j := 0) rfl
  have c1 := h.cell (j := 1) rfl
  have c2 := h.cell (j := 2) rfl
  clear h
  go_enter Tryz.func154, Tryz.ntmps154
  go_wp2_with fail
  refine HN.out.mono ?_
  rintro e w' ⟨rfl, rfl⟩
  go_wp2_with fail
  go_region
  go_wp2_with fail
  go_ret
  exact ⟨rfl, (Below.refl _ w).drew⟩
/-- One character more. -/
theorem ins_rel {w W : World} {t G K n p' : Nat} {s : ByteArray} {cs pre rest' : List Nat} {c : Nat} {v : Value} {Z : Array Value} (hp : p' ≤ s.size) (hcs : cs = pre ++ c :: rest') (hr : charsD (s.data.toList.drop p') = some rest') (hit : W.heap[K]? = some (.stringIter s p'))
    (hbt : Blk W t 192 (txtC G (n + 16) (n + 16) pre.length (n + 16) (.slice none 0 0))) (hZ : Blk W G 21 Z) (hZl : Z.toList = (pre.map fun c : Nat => Value.int .i32 c) ++ List.replicate (n + 16 - pre.length) (.int .i32 0)) (hl : pre.length < n)
    (hown : ROwn encI 3 1 (K + 1) W v (feeds (pre ++ [c]))) (ho : Only (fun k => k = t) w W) (hs : K + 1 ≤ W.heap.size) (h1 : t < w.heap.size) (h2 : w.heap.size ≤ G) (h3 : G < K) (h4 : w.heap.size ≤ K) :
    ∃ (p : Nat) (pre' rest : List Nat), p ≤ s.size ∧ cs = pre' ++ rest ∧ charsD (s.data.toList.drop p) = some rest ∧ (((W.setCell ⟨G, pre.length, none⟩ (.int .i32 c)).setCell ⟨t, 1, none⟩ (.int .i64 ((pre.length : Int) + 1))).drew).heap[K]? = some (.stringIter s p) ∧
      Blk (((W.setCell ⟨G, pre.length, none⟩ (.int .i32 c)).setCell ⟨t, 1, none⟩ (.int .i64 ((pre.length : Int) + 1))).drew) t 192 (txtC G (n + 16) (n + 16) pre'.length (n + 16) (.slice none 0 0)) ∧
      (∃ Z : Array Value, Blk (((W.setCell ⟨G, pre.length, none⟩ (.int .i32 c)).setCell ⟨t, 1, none⟩ (.int .i64 ((pre.length : Int) + 1))).drew) G 21 Z ∧ Z.toList = (pre'.map fun c : Nat => Value.int .i32 c) ++ List.replicate (n + 16 - pre'.length) (.int .i32 0)) ∧
      ROwn encI 3 1 (K + 1) (((W.setCell ⟨G, pre.length, none⟩ (.int .i32 c)).setCell ⟨t, 1, none⟩ (.int .i64 ((pre.length : Int) + 1))).drew) v (feeds pre') ∧ Only (fun k => k = t) w (((W.setCell ⟨G, pre.length, none⟩ (.int .i32 c)).setCell ⟨t, 1, none⟩ (.int .i64 ((pre.length : Int) + 1))).drew) ∧
      K + 1 ≤ (((W.setCell ⟨G, pre.length, none⟩ (.int .i32 c)).setCell ⟨t, 1, none⟩ (.int .i64 ((pre.length : Int) + 1))).drew).heap.size := by
  have hk : ∀ j, j ≠ G → j ≠ t → (((W.setCell ⟨G, pre.length, none⟩ (.int .i32 c)).setCell ⟨t, 1, none⟩ (.int .i64 ((pre.length : Int) + 1))).drew).heap[j]? = W.heap[j]? := fun j hG ht =>
    (Below.heap_setCell _ ⟨t, 1, none⟩ _ _ ht).trans (Below.heap_setCell _ ⟨G, pre.length, none⟩ _ _ hG)
  have hZs : Z.size = n + 16 := by
    have := congrArg List.length hZl
    simp at this
    omega
  refine ⟨p', pre ++ [c], rest', hp, by rw [hcs, List.append_assoc]; rfl, hr, (hk K (by omega) (by omega)).trans hit, ?_, ?_, hown.kept (fun g hg => hk g (by have := hown.base hg; omega) (by have := hown.base hg; omega)), ?_, ?_⟩
  · have := (hbt.kept (w' := W.setCell ⟨G, pre.length, none⟩ (.int .i32 c)) (Below.heap_setCell _ _ _ _ (show t ≠ G by omega))).set (j := 1) (by simp) (.int .i64 ((pre.length : Int) + 1))
    have e : ((pre ++ [c]).length : Int) = (pre.length : Int) + 1 := by simp
    unfold txtC
    rw [e]
    exact this
  · refine ⟨_, (hZ.set (j := pre.length) (by omega) (.int .i32 c)).kept (Below.heap_setCell _ ⟨t, 1, none⟩ _ _ (show G ≠ t by omega)), ?_⟩
    rw [Array.toList_set, hZl, List.map_append, List.length_append, List.set_append_right _ _ (by simp)]
    have e : n + 16 - pre.length = (n + 16 - (pre.length + 1)) + 1 := by omega
    simp [e, List.replicate_succ]
  · exact ho.then (T := fun k => k = G ∨ k = t) ⟨rfl, rfl, rfl, by simp, fun j _ hj => hk j (fun e => hj (.inl e)) (fun e => hj (.inr e))⟩ (fun j hj hj2 => by rcases hj with h | h <;> omega)
  · show K + 1 ≤ ((W.setCell ⟨G, pre.length, none⟩ (.int .i32 c)).setCell ⟨t, 1, none⟩ (.int .i64 ((pre.length : Int) + 1))).heap.size
    simp; exact hs
set_option maxRecDepth 100000 in
set_option maxHeartbeats 2000000 in
theorem ginsert0 {N : Nat} (hT : Tabs N w) (s : ByteArray) (hs : s.size ≤ 10000) (hv : (charsD s.data.toList).isSome = true) (h : Blk w t 192 (txtC g 0 0 0 0 (.slice none 0 0))) (hNt : N ≤ t) (h0 : 0 < (chrs s).length) :
    Calls Tryz.prog 180 #[.pointer (some ⟨t, 0, none⟩), .int .i64 1, .string s] w fun e w' => e = .returned (.int .i64 0) ∧ Only (fun k => k = t) w w' ∧ ∃ g', w.heap.size ≤ g' ∧ GapR w' t g' (chrs s) := by
  have hn := chrs_len s
  have HL := rlenG_chars hv
  have HI := chrs_isN s
  obtain ⟨cs, hcs⟩ := Option.isSome_iff_exists.1 hv
  have hcc : chrs s = cs := by unfold chrs; rw [hcs]; rfl
  rw [hcc] at hn HL HI h0 ⊢
  have hvl : vld s = true := by rw [vld_chars]; exact hv
  obtain ⟨n, hnn⟩ : ∃ n, n = cs.length := ⟨_, rfl⟩
  have HCS := Lib.hid hcs
  have HII := Lib.hid HI
  have H := Lib.hid h
  have HT := Lib.hid hT
  have HN := Lib.hid (gnone0 h rfl)
  have ht := h.lt
  have HNN := Lib.hid hnn
  rw [← hnn] at HL hn h0
  clear hv hcc hcs HI h hT hnn
  go_enter Tryz.func180, Tryz.ntmps180
  go_wp2_with fail
  refine HN.out.mono ?_
  rintro e w' ⟨rfl, rfl⟩
  go_wp2_with fail
  refine (gsize0 _ H.out).mono ?_
  rintro e w1 ⟨rfl, hb1⟩
  have H1 := Lib.hid (H.out.up hb1)
  have HT1 := Lib.hid (HT.out.up hb1)
  have hV := valid_any s w1 (by omega) HT1.out
  rw [hvl] at hV
  go_wp2_with fail
  refine hV.mono ?_
  rintro e w2 ⟨rfl, hb2⟩
  have H2 := Lib.hid (H1.out.up hb2)
  have HT2 := Lib.hid (HT1.out.up hb2)
  clear hV
  go_wp2_with fail
  have hLn := runesLen s w2 (by omega) HT2.out
  rw [HL] at hLn
  refine hLn.mono ?_
  rintro e w3 ⟨rfl, hb3⟩
  have H3 := Lib.hid (H2.out.up hb3)
  have HB3 := Lib.hid (up2 hb1 (up2 hb2 hb3))
  clear hLn hb1 hb2 hb3 H1 H2 HT1 HT2
  go_wp2_with fail
  refine (gsize0 _ H3.out).mono ?_
  rintro e w4 ⟨rfl, hb4⟩
  have H4 := Lib.hid (H3.out.up hb4)
  have HB4 := Lib.hid (up2 HB3.out hb4)
  have d1 : decide ((65536 : Int) < (n : Int)) = false := decide_eq_false (by omega)
  clear hb4 HB3 H3
  go_wp2_with fail
  refine (gmove0 _ H4.out).mono ?_
  rintro e w5 ⟨rfl, ho5, hk5⟩
  have H5 := Lib.hid hk5
  have HO5 := Lib.hid ho5
  clear hk5 ho5 H4
  go_wp2_with fail
  refine (ggrow0 _ n (by omega) H5.out h0).mono ?_
  rintro e w6 ⟨rfl, ho6, hk6, hs6, hg6⟩
  have H6 := Lib.hid hk6
  have HG6 := Lib.hid hg6
  have HO6 := Lib.hid ((Only.of_below HB4.out : Only (fun k => k = t) w w4).trans (HO5.out.trans ho6))
  have hge : w.heap.size ≤ w5.heap.size := Nat.le_trans HB4.out.size HO5.out.size
  generalize w5.heap.size = G at *
  have f3 := hk6.cell (j := 3) rfl
  clear hk6 hg6 ho6 H5 HO5 HB4 hs6
  go_wp2_with fail
  refine (bsearch_nil 1).mono ?_
  rintro e w7 ⟨rfl, rfl⟩
  go_wp2_with fail
  go_loopw [10] (fun va wr => va = .int .i64 0 ∧ w6 = wr) (fun _ _ => 0)
  case atStart => exact ⟨rfl, rfl⟩
  case round =>
    obtain ⟨rfl, rfl⟩ := hrel
    go_wp2_with fail
    clear f3
    have hit := w6.iter_heap s 0
    have hsz : (w6.iter s 0).heap.size = w6.heap.size + 1 := by simp [World.iter]
    have HBi := Lib.hid (show Below w6.heap.size w6 (w6.iter s 0) from below1 w6 _)
    generalize w6.iter s 0 = W at *
    go_loopw [11, 13] (fun va vb wr => ∃ (p : Nat) (pre rest : List Nat), p ≤ s.size ∧ cs = pre ++ rest ∧ charsD (s.data.toList.drop p) = some rest ∧ wr.heap[w6.heap.size]? = some (.stringIter s p) ∧
      Blk wr t 192 (txtC G (n + 16) (n + 16) pre.length (n + 16) (.slice none 0 0)) ∧ (∃ Z : Array Value, Blk wr G 21 Z ∧ Z.toList = (pre.map fun c : Nat => Value.int .i32 c) ++ List.replicate (n + 16 - pre.length) (.int .i32 0)) ∧
      ROwn encI 3 1 (w6.heap.size + 1) wr va (feeds pre) ∧ Only (fun k => k = t) w wr ∧ w6.heap.size + 1 ≤ wr.heap.size) (fun _ _ wr => s.size - wr.iterPos w6.heap.size)
    case atStart =>
      refine ⟨0, [], cs, Nat.zero_le _, rfl, by simpa using HCS.out, hit, H6.out.up HBi.out, ⟨_, HG6.out.up HBi.out, by simp⟩, ROwn.nil _ _, HO6.out.trans (Only.of_below HBi.out), by omega⟩
    case round =>
      obtain ⟨p, pre, rest, hp, hcs, hrest, hit, hbt, ⟨Z, hZ, hZl⟩, hown, honly, hsz2⟩ := hrel

      have hGt : G ≠ t := by omega
      have hGK : G < w6.heap.size := HG6.out.lt
      have htK : t < w6.heap.size := H6.out.lt
      have hwK : w.heap.size ≤ w6.heap.size := HO6.out.size
      generalize w6.heap.size = K at *
      have hle : pre.length + rest.length = n := by rw [HNN.out, hcs, List.length_append]
      by_cases hlt : p < s.size
      · obtain ⟨c, rest', hrc, hd1, hd2, hd3, hd4, hc⟩ := decode_step hlt hrest
        subst hrc
        have hnx := fun ty => Lib.run_next_any_at (P := Tryz.prog) wr K s p ty hit hlt
        rw [hd1] at hnx
        have hit1 := Lib.iterAt_heap wr K s p (p + (Utf8.decode s p).2) hit
        have hoth := fun j (hj : j ≠ K) => Lib.iterAt_other wr K j s (p + (Utf8.decode s p).2) hj
        have hsz1 := Lib.iterAt_size wr K s (p + (Utf8.decode s p).2)
        have hon1 : Only (fun k => k = t) w (wr.iterAt K s (p + (Utf8.decode s p).2)) := honly.then (T := fun k => k = K) ⟨rfl, rfl, rfl, by rw [hsz1]; exact Nat.le_refl _, fun j _ hj => hoth j hj⟩ (fun j hj hj2 => by omega)
        have hip : (wr.iterPos K) = p := iterPos_of hit
        rw [hip]
        have hpp : p < p + (Utf8.decode s p).2 := by omega
        clear hd1 hd2
        generalize p + (Utf8.decode s p).2 = p' at *
        generalize wr.iterAt K s p' = w1 at *
        have hbt1 := hbt.kept (hoth t (by omega))
        have hZ1 := hZ.kept (hoth G (by omega))
        have hown1 := hown.kept (fun g hg => hoth g (by have := hown.base hg; omega))
        have hsz1' : K + 1 ≤ w1.heap.size := by rw [hsz1]; exact hsz2
        clear hsz1
        simp only [List.length_cons] at hle
        have c0 := hbt1.cell (j := 0) rfl
        have c1 := hbt1.cell (j := 1) rfl
        have HNX := Lib.hid hnx
        by_cases h10 : c = 10
        · have d10 : ((c : Int) == (10 : Int)) = true := by simp [h10]
          have s1 : IntKind.i64.wrap ((pre.length : Int) + 1) = (pre.length : Int) + 1 := IntWalk.i64_in _ (by omega)
          obtain ⟨v', w2, happ, hown2, hb2, hon2, _⟩ := append_elem eltI hown1 hsz1' ((pre.length : Int) + 1) (by have := feedsF_len pre 1; unfold feeds; omega) (by omega)
          have HP : Hid (∀ ty, (Builtin.append_ #[88, 88] ty #[u11, .slice (some ⟨w1.heap.size, 0, none⟩) 1 1]).run Tryz.prog (w1.alloc (.cells #[.int .i64 ((pre.length : Int) + 1)] 3)) = .ok v' w2) := Lib.hid happ
          clear happ
          go_wp2_with (at_builtin; refine wpList_app_run (v := u11) (u := .slice (some ⟨w1.heap.size, 0, none⟩) 1 1) rfl _ _ _ rfl rfl rfl HP.out ?_)
          have hit2 := (hb2.block K (by omega)).trans hit1
          have hbt2 := hbt1.kept (hb2.block t (by omega))
          have hZ2 := hZ1.kept (hb2.block G (by omega))
          have hsz2' : K + 1 ≤ w2.heap.size := Nat.le_trans hsz1' hb2.size
          have hon3 : Only (fun k => k = t) w w2 := hon1.then (T := fun k => K + 1 ≤ k) ⟨hb2.os, hb2.tape, hb2.output, hb2.size, fun j hj hj2 => hb2.block j (by omega)⟩ (fun j hj hj2 => by omega)
          have hown3 : ROwn encI 3 1 (K + 1) w2 v' (feeds (pre ++ [c])) := by
            unfold feeds at hown2 ⊢
            rw [feedsF_snoc, if_pos h10]
            have e : ((1 + pre.length : Nat) : Int) = (pre.length : Int) + 1 := by omega
            rw [e]; exact hown2
          subst h10
          clear hown2 hit1 hbt1 hZ1 hon1 hsz1' hown1 c0 c1 hb2 hon2
          have HIT := Lib.hid hit2
          have q0 := hbt2.cell (j := 0) rfl
          have q1 := hbt2.cell (j := 1) rfl
          have qf := hbt2.fz 1
          have hZs : Z.size = n + 16 := by
            have := congrArg List.length hZl
            simp at this
            omega
          have q2 := hZ2.cell (j := pre.length) (v := Z[pre.length]'(by omega)) (Array.getElem?_eq_getElem _)
          have q3 := hZ2.fz pre.length
          have hlt2 : (pre.length : Int) < (n : Int) + 16 := by omega
          have s1 : IntKind.i64.wrap ((pre.length : Int) + 1) = (pre.length : Int) + 1 := IntWalk.i64_in _ (by omega)
          generalize hzz : Z[pre.length]'(by omega) = zz at *
          have HREL := Lib.hid (ins_rel (w := w) (s := s) (p' := p') hd3 hcs hd4 hit2 hbt2 hZ2 hZl (by omega) hown3 hon3 hsz2' ht hge hGK hwK)
          clear hbt2 hZ2 hit2 hown3 hon3 hsz2'
          go_wp2_with fail
          go_region
          go_wp2_with fail
          go_roundw
          case rel => exact HREL.out
          case measure =>
            have e : (((w2.setCell ⟨G, pre.length, none⟩ (.int .i32 10)).setCell ⟨t, 1, none⟩ (.int .i64 ((pre.length : Int) + 1))).drew).iterPos K = p' := iterPos_of (by
              exact ((Below.heap_setCell _ ⟨t, 1, none⟩ _ _ (show K ≠ t by omega)).trans (Below.heap_setCell _ ⟨G, pre.length, none⟩ _ _ (show K ≠ G by omega))).trans HIT.out)
            rw [e]
            omega
          
        · have d10 : ((c : Int) == (10 : Int)) = false := by simp; omega
          have hown3 : ROwn encI 3 1 (K + 1) w1 u11 (feeds (pre ++ [c])) := by
            unfold feeds at hown1 ⊢
            rw [feedsF_snoc, if_neg h10, List.append_nil]; exact hown1
          clear c0 c1 hown1
          have HIT := Lib.hid hit1
          have q0 := hbt1.cell (j := 0) rfl
          have q1 := hbt1.cell (j := 1) rfl
          have qf := hbt1.fz 1
          have hZs : Z.size = n + 16 := by
            have := congrArg List.length hZl
            simp at this
            omega
          have q2 := hZ1.cell (j := pre.length) (v := Z[pre.length]'(by omega)) (Array.getElem?_eq_getElem _)
          have q3 := hZ1.fz pre.length
          have hlt2 : (pre.length : Int) < (n : Int) + 16 := by omega
          have s1 : IntKind.i64.wrap ((pre.length : Int) + 1) = (pre.length : Int) + 1 := IntWalk.i64_in _ (by omega)
          generalize hzz : Z[pre.length]'(by omega) = zz at *
          have HREL := Lib.hid (ins_rel (w := w) (s := s) (p' := p') hd3 hcs hd4 hit1 hbt1 hZ1 hZl (by omega) hown3 hon1 hsz1' ht hge hGK hwK)
          clear hbt1 hZ1 hit1 hown3 hon1 hsz1'
          go_wp2_with fail
          go_region
          go_wp2_with fail
          go_roundw
          case rel => exact HREL.out
          case measure =>
            have e : (((w1.setCell ⟨G, pre.length, none⟩ (.int .i32 c)).setCell ⟨t, 1, none⟩ (.int .i64 ((pre.length : Int) + 1))).drew).iterPos K = p' := iterPos_of (by
              exact ((Below.heap_setCell _ ⟨t, 1, none⟩ _ _ (show K ≠ t by omega)).trans (Below.heap_setCell _ ⟨G, pre.length, none⟩ _ _ (show K ≠ G by omega))).trans HIT.out)
            rw [e]
            omega
          
      · have hp2 : p = s.size := by omega
        have hrn : rest = [] := by
          have : s.data.toList.drop p = [] := List.drop_eq_nil_of_le (by rw [hp2]; simp)
          rw [this, charsD_nil] at hrest
          cases hrest; rfl
        subst hrn
        rw [List.append_nil] at hcs
        have hln : pre.length = n := by rw [HNN.out, hcs]
        obtain rfl : pre = cs := hcs.symm
        have hnx := fun ty => Lib.run_next_end_at (P := Tryz.prog) wr K s p ty hit hlt
        have q3 := hbt.cell (j := 3) rfl
        have qf := hbt.fz 3
        have HIns := Lib.hid (sinsert_nil hsz2 hown (by have := feedsF_len pre 1; unfold feeds; omega))
        have HBT := Lib.hid hbt
        have HZ := Lib.hid hZ
        have HZL := Lib.hid hZl
        have HON := Lib.hid honly
        clear hbt hZ hZl honly hown hit hrest
        go_wp2_with fail
        refine HIns.out.mono ?_
        rintro e w8 ⟨v', rfl, hown8, hb8⟩
        have hb9 := HBT.out.up hb8
        have hZ9 := HZ.out.up hb8
        have qf := hb9.fz 3
        have q3 := hb9.cell (j := 3) rfl
        have hon9 : Only (fun k => k = t) w w8 := HON.out.trans (Only.of_below hb8)
        obtain ⟨A8, c8, rfl, _, _, _⟩ := hown8.shape eltI
        clear hb8 hown8
        have HB9 := Lib.hid hb9
        have HZ9 := Lib.hid hZ9
        clear hb9 hZ9
        go_wp2_with fail
        go_ret
        refine ⟨rfl, hon9.setCell (p := ⟨t, 3, none⟩) rfl _, G, hge, pre.map Int.ofNat ++ List.replicate 16 0, n + 16, n, n + 16, ?_⟩
        have hbf := HB9.out.set (j := 3) (by simp) (.slice A8 (feeds pre).length c8)
        have hZf := HZ9.out.kept (Below.heap_setCell w8 ⟨t, 3, none⟩ (.slice A8 (feeds pre).length c8) G (show G ≠ t by omega))
        have hBl : (pre.map Int.ofNat ++ List.replicate 16 (0 : Int)).length = n + 16 := by simp [hln]
        refine ⟨?_, ?_, ?_, by rw [hBl]; exact Nat.le_refl _, by omega, hZf.lt, fun i z hz => ?_, by omega, by rw [hBl]; exact Nat.le_refl _, ?_, HII.out⟩
        · rw [hBl]; exact hbf.cell (j := 0) rfl
        · rw [← hln]; exact hbf.cell (j := 1) rfl
        · exact hbf.cell (j := 2) rfl
        · refine hZf.cell ?_
          rw [← Array.getElem?_toList, HZL.out, hln, show n + 16 - n = 16 by omega]
          have e : (pre.map fun c : Nat => Value.int .i32 c) ++ List.replicate 16 (Value.int .i32 0) = (pre.map Int.ofNat ++ List.replicate 16 (0 : Int)).map (fun z => Value.int .i32 z) := by
            rw [List.map_append, List.map_map, List.map_replicate]; rfl
          rw [e, List.getElem?_map, hz]; rfl
        · rw [← hln, List.take_left' (by simp), List.drop_eq_nil_of_le (by simp), List.append_nil]
end
end Go.Proofs.YtcfdalmllegefaaGreatDoor
/- gap.New of the empty string; buffer.New. -/
namespace Go.Proofs.YtcfdalmllegefaaGreatDoor
open Go.RowKit
set_option linter.unusedVariables false
set_option linter.unusedSimpArgs false
section
variable {w w' : World} {t g b : Nat}
set_option maxHeartbeats 1000000 in
theorem ggrowE (f : Value) (h : Blk w t 192 (txtC g 0 0 0 0 f)) : Calls Tryz.prog 252 #[pAt t, .int .i64 0] w fun e w' => e = .returned (.tuple #[]) ∧ Below w.heap.size w w' := by
  have c1 := h.cell (j := 1) rfl
  have c2 := h.cell (j := 2) rfl
  clear h
  go_enter Tryz.func252, Tryz.ntmps252
  go_wp2_with fail
  go_region
  go_wp2_with fail
  refine bodyPost_ret (results_none rfl _ _ _) rfl ?_
  exact ⟨rfl, (Below.refl _ w).drew⟩
set_option maxHeartbeats 1000000 in
theorem sinsertE (w : World) : Calls Tryz.prog 254 #[.slice none 0 0, .int .i64 0, .slice none 0 0] w fun e w' => e = .returned (.slice none 0 0) ∧ w = w' := by
  go_enter Tryz.func254, Tryz.ntmps254
  go_wp2_with fail
  go_ret
  exact ⟨rfl, rfl⟩
theorem emptyS : (charsD (ByteArray.empty).data.toList).isSome = true := rfl
theorem vldE : vld ⟨#[]⟩ = true := by rw [vld_chars]; rfl
theorem rlenE : rlenG ⟨#[]⟩ = 0 := by
  rw [rlenG_chars (s := ⟨#[]⟩) rfl]; rfl
set_option maxRecDepth 100000 in
set_option maxHeartbeats 2000000 in
theorem ginsertE {N : Nat} (hT : Tabs N w) (h : Blk w t 192 (txtC g 0 0 0 0 (.slice none 0 0))) (hNt : N ≤ t) :
    Calls Tryz.prog 180 #[pAt t, .int .i64 1, .string ⟨#[]⟩] w fun e w' => e = .returned (.int .i64 0) ∧ Only (fun k => k = t) w w' ∧ Blk w' t 192 (txtC g 0 0 0 0 (.slice none 0 0)) := by
  have H := Lib.hid h
  have HT := Lib.hid hT
  have HN := Lib.hid (gnone0 h rfl)
  have ht := h.lt
  clear h hT
  go_enter Tryz.func180, Tryz.ntmps180
  go_wp2_with fail
  refine HN.out.mono ?_
  rintro e w' ⟨rfl, rfl⟩
  go_wp2_with fail
  refine (gsize0 _ H.out).mono ?_
  rintro e w1 ⟨rfl, hb1⟩
  have H1 := Lib.hid (H.out.up hb1)
  have HT1 := Lib.hid (HT.out.up hb1)
  have hV := valid_any ⟨#[]⟩ w1 (by decide) HT1.out
  rw [vldE] at hV
  go_wp2_with fail
  refine hV.mono ?_
  rintro e w2 ⟨rfl, hb2⟩
  have H2 := Lib.hid (H1.out.up hb2)
  have HT2 := Lib.hid (HT1.out.up hb2)
  clear hV
  go_wp2_with fail
  have hLn := runesLen ⟨#[]⟩ w2 (by decide) HT2.out
  rw [rlenE] at hLn
  refine hLn.mono ?_
  rintro e w3 ⟨rfl, hb3⟩
  have H3 := Lib.hid (H2.out.up hb3)
  have HB3 := Lib.hid (up2 hb1 (up2 hb2 hb3))
  clear hLn hb1 hb2 hb3 H1 H2 HT1 HT2
  go_wp2_with fail
  refine (gsize0 _ H3.out).mono ?_
  rintro e w4 ⟨rfl, hb4⟩
  have H4 := Lib.hid (H3.out.up hb4)
  have HB4 := Lib.hid (up2 HB3.out hb4)
  clear hb4 HB3 H3
  go_wp2_with fail
  refine (gmove0 _ H4.out).mono ?_
  rintro e w5 ⟨rfl, ho5, hk5⟩
  have H5 := Lib.hid hk5
  have HO5 := Lib.hid ho5
  clear hk5 ho5 H4
  go_wp2_with fail
  refine (ggrowE _ H5.out).mono ?_
  rintro e w6 ⟨rfl, hb6⟩
  have hk6 := H5.out.up hb6
  have H6 := Lib.hid hk6
  have HO6 := Lib.hid (((Only.of_below HB4.out : Only (fun k => k = t) w w4).trans HO5.out).trans (Only.of_below hb6))
  have f3 := hk6.cell (j := 3) rfl
  clear hk6 hb6 H5 HO5 HB4
  go_wp2_with fail
  refine (bsearch_nil 1).mono ?_
  rintro e w7 ⟨rfl, rfl⟩
  go_wp2_with fail
  go_loopw [10] (fun va wr => va = .int .i64 0 ∧ w6 = wr) (fun _ _ => 0)
  case atStart => exact ⟨rfl, rfl⟩
  case round =>
    obtain ⟨rfl, rfl⟩ := hrel
    go_wp2_with fail
    clear f3
    have hit := w6.iter_heap ⟨#[]⟩ 0
    have HBi := Lib.hid (show Below w6.heap.size w6 (w6.iter ⟨#[]⟩ 0) from below1 w6 _)
    generalize w6.iter ⟨#[]⟩ 0 = W at *
    go_loopw [11, 13] (fun va vb wr => va = .slice none 0 0 ∧ W = wr) (fun _ _ _ => 0)
    case atStart => exact ⟨rfl, rfl⟩
    case round =>
      obtain ⟨rfl, rfl⟩ := hrel
      have hnx := fun ty => Lib.run_next_end_at (P := Tryz.prog) W w6.heap.size ⟨#[]⟩ 0 ty hit (by decide)
      have hkW := H6.out.up HBi.out
      have q3 := hkW.cell (j := 3) rfl
      have qf := hkW.fz 3
      have HW := Lib.hid hkW
      clear hkW
      go_wp2_with fail
      refine (sinsertE W).mono ?_
      rintro e w8 ⟨rfl, rfl⟩
      go_wp2_with fail
      go_ret
      refine ⟨rfl, (HO6.out.trans (Only.of_below HBi.out)).setCell (p := ⟨t, 3, none⟩) rfl _, HW.out.set (j := 3) (by simp) (.slice none 0 0)⟩
set_option maxRecDepth 100000 in
set_option maxHeartbeats 2000000 in
theorem gapNew0 {N : Nat} (hT : Tabs N w) (hN : N ≤ w.heap.size) : Calls Tryz.prog 105 #[.string ⟨#[]⟩] w fun e w' => ∃ g t, e = .returned (.tuple #[pAt t, .int .i64 0]) ∧ Below w.heap.size w w' ∧ w.heap.size ≤ g ∧ g < t ∧ Blk w' t 192 (txtC g 0 0 0 0 (.slice none 0 0)) := by
  have hV := valid_any ⟨#[]⟩ w (by decide) hT
  rw [vldE] at hV
  have HV := Lib.hid hV
  have HT := Lib.hid hT
  clear hT hV
  go_enter Tryz.func105, Tryz.ntmps105
  go_wp2_with fail
  refine HV.out.mono ?_
  rintro e w1 ⟨rfl, hb1⟩
  have hw1 := hb1.size
  have hsz : (w1.alloc (.cells #[] 21)).heap.size = w1.heap.size + 1 := by simp
  have hk : Blk ((w1.alloc (.cells #[] 21)).alloc (.cells #[.slice (some ⟨w1.heap.size, 0, none⟩) 0 0, .int .i64 0, .int .i64 0, .slice none 0 0] 192)) (w1.heap.size + 1) 192 (txtC w1.heap.size 0 0 0 0 (.slice none 0 0)) := by
    have := Blk.made (w1.alloc (.cells #[] 21)) 192 (txtC w1.heap.size 0 0 0 0 (.slice none 0 0))
    rwa [hsz] at this
  have hb2 : Below w.heap.size w ((w1.alloc (.cells #[] 21)).alloc (.cells #[.slice (some ⟨w1.heap.size, 0, none⟩) 0 0, .int .i64 0, .int .i64 0, .slice none 0 0] 192)) := up2 hb1 (below2 w1 _ _)
  have HK := Lib.hid hk
  have HB := Lib.hid hb2
  clear hk hb1 hb2 HV
  go_wp2_with fail
  refine (ginsertE (HT.out.up HB.out) HK.out (by omega)).mono ?_
  rintro e w3 ⟨rfl, ho3, hk3⟩
  go_wp2_with fail
  go_ret2
  exact ⟨_, _, rfl, (HB.out).trans (ho3.below HB.out.size (fun k hk => by omega)), hw1, Nat.lt_succ_self _, hk3⟩
end
end Go.Proofs.YtcfdalmllegefaaGreatDoor
