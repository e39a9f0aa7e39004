import Derived.Test.YtklaeecegkpgmaaGreatDoorSyA
import Derived.Test.YtklaeecegkpgmaaGreatDoorLayK
/- package syntax: plain, the rule of Lisp, entry, Class, Copy. -/
namespace Go.Proofs.YtklaeecegkpgmaaGreatDoor
open Go.RowKit
set_option linter.unusedVariables false
set_option linter.unusedSimpArgs false
def plainC (c : Nat) : Int := if c = 9 ∨ c = 10 ∨ c = 12 ∨ c = 13 ∨ c = 32 then 3 else if inS c wordL then 1 else 0
abbrev symS : ByteArray := ⟨#[45, 43, 42, 47, 60, 62, 61, 33, 63, 36, 37, 38, 95, 126, 94, 58, 123, 125, 124, 46, 64, 35]⟩
def symB (c : Nat) : Bool := decide (0 ≤ Lib.indexByte symS.data.toList ((c : Int).toNat.toUInt8))
def lispE (c : Nat) : Int × Int := match lookM specL c with
  | some x => x
  | none => if 32 < c ∧ c < 127 ∧ symB c = true then (2, 0) else (plainC c, 0)
def lispC (c : Nat) : Int := (lispE c).1
section
variable {w w' : World} {tb bs ms mo : Nat}
theorem eqb (c k : Nat) (h : c ≠ k) : ((c : Int) == (k : Int)) = false := by simp; omega
set_option maxRecDepth 100000 in
set_option maxHeartbeats 2000000 in
theorem plain_ok (c : Nat) (w : World) : Calls Tryz.prog 36 #[.int .i64 c] w fun e w' => e = .returned (.agg #[.int .i64 (plainC c), .int .i64 0]) ∧ Below w.heap.size w w' := by
  unfold plainC
  have hb := below1 w (.cells #[.int .i64 0, .int .i64 0] 60)
  have hk := Blk.made w 60 #[.int .i64 0, .int .i64 0]
  have HK := Lib.hid hk
  have HB := Lib.hid hb
  clear hk hb
  by_cases hsp : c = 9 ∨ c = 10 ∨ c = 12 ∨ c = 13 ∨ c = 32
  · rw [if_pos hsp]
    have hfin : ∀ (W : World), W = w.alloc (.cells #[.int .i64 3, .int .i64 0] 60) → W.cell? ⟨w.heap.size, 0, none⟩ = some (.int .i64 3) ∧ W.cell? ⟨w.heap.size, 1, none⟩ = some (.int .i64 0) := fun W hW => by
      subst hW
      exact ⟨(Blk.made w 60 #[.int .i64 3, .int .i64 0]).cell (j := 0) rfl, (Blk.made w 60 #[.int .i64 3, .int .i64 0]).cell (j := 1) rfl⟩
    obtain ⟨k0, k1⟩ := hfin _ rfl
    clear hfin
    rcases hsp with rfl | rfl | rfl | rfl | rfl
    all_goals
      go_enter Tryz.func36, Tryz.ntmps36
      go_wp2_with fail
      refine bodyPost_ret (v := .agg #[.int .i64 3, .int .i64 0]) (by simp [results, Tryz.f36, go_sem, k0, k1]) rfl ?_
      exact ⟨rfl, below1 w _⟩
  · rw [if_neg hsp]
    have e1 : ((c : Int) == (9 : Int)) = false := by simp; omega
    have e2 : ((c : Int) == (10 : Int)) = false := by simp; omega
    have e3 : ((c : Int) == (12 : Int)) = false := by simp; omega
    have e4 : ((c : Int) == (13 : Int)) = false := by simp; omega
    have e5 : ((c : Int) == (32 : Int)) = false := by simp; omega
    have HW := Lib.hid fun W => word_ok c W
    clear hsp
    cases hw : inS c wordL with
    | true =>
      rw [hw] at HW
      simp only [if_true]
      go_enter Tryz.func36, Tryz.ntmps36
      go_wp2_with fail
      refine (HW.out _).mono ?_
      rintro e w1 ⟨rfl, hb1⟩
      have hk1 := HK.out.up hb1
      have k0 := hk1.cell (j := 0) rfl
      have k1 := hk1.cell (j := 1) rfl
      have f0 := hk1.fz 0
      have f1 := hk1.fz 1
      go_wp2_with fail
      have hk2 := (hk1.set (j := 0) (by simp) (.int .i64 1)).set (j := 1) (by simp) (.int .i64 0)
      have k0 := hk2.cell (j := 0) rfl
      have k1 := hk2.cell (j := 1) rfl
      refine bodyPost_ret (v := .agg #[.int .i64 1, .int .i64 0]) (by simp [results, Tryz.f36, go_sem, k0, k1]) rfl ?_
      exact ⟨rfl, ((HB.out.trans (hb1.mono HB.out.size)).setCell (p := ⟨w.heap.size, 0, none⟩) (Nat.le_refl _) _).setCell (p := ⟨w.heap.size, 1, none⟩) (Nat.le_refl _) _⟩
    | false =>
      rw [hw] at HW
      simp only [Bool.false_eq_true, if_false]
      go_enter Tryz.func36, Tryz.ntmps36
      go_wp2_with fail
      refine (HW.out _).mono ?_
      rintro e w1 ⟨rfl, hb1⟩
      have hk1 := HK.out.up hb1
      have k0 := hk1.cell (j := 0) rfl
      have k1 := hk1.cell (j := 1) rfl
      have f0 := hk1.fz 0
      have f1 := hk1.fz 1
      go_wp2_with fail
      have hk2 := (hk1.set (j := 0) (by simp) (.int .i64 0)).set (j := 1) (by simp) (.int .i64 0)
      have k0 := hk2.cell (j := 0) rfl
      have k1 := hk2.cell (j := 1) rfl
      refine bodyPost_ret (v := .agg #[.int .i64 0, .int .i64 0]) (by simp [results, Tryz.f36, go_sem, k0, k1]) rfl ?_
      exact ⟨rfl, ((HB.out.trans (hb1.mono HB.out.size)).setCell (p := ⟨w.heap.size, 0, none⟩) (Nat.le_refl _) _).setCell (p := ⟨w.heap.size, 1, none⟩) (Nat.le_refl _) _⟩
theorem lookSpec (h : LspT w tb bs ms mo) (c : Nat) : (∃ x, lookM specL c = some x ∧ (Instr.lookup 61 (.map (some ms)) (.int .i64 c) true).run Tryz.prog w = .ok (.tuple #[.agg #[.int .i64 x.1, .int .i64 x.2], .bool true]) w) ∨
    (lookM specL c = none ∧ (Instr.lookup 61 (.map (some ms)) (.int .i64 c) true).run Tryz.prog w = .ok (.tuple #[.agg #[.int .i64 0, .int .i64 0], .bool false]) w) := by
  cases hx : lookM specL c with
  | some x => exact .inl ⟨x, rfl, h.spec.look_some mapTE keyTE hx true⟩
  | none => exact .inr ⟨rfl, h.spec.look_none mapTE keyTE hx true (zeroE w)⟩
theorem u8wrap (c : Nat) (h : c < 127) : IntKind.u8.wrap (c : Int) = (c : Int) := by
  simp only [IntKind.wrap, IntKind.bits, IntKind.signed]
  first | omega | (simp; omega)
set_option maxRecDepth 100000 in
set_option maxHeartbeats 4000000 in
theorem rule_ok (h : LspT w tb bs ms mo) (c : Nat) : Calls Tryz.prog 34 #[.int .i64 c, pAt bs] w fun e w' => e = .returned (.agg #[.int .i64 (lispE c).1, .int .i64 (lispE c).2]) ∧ Below w.heap.size w w' := by
  have hb := below1 w (.cells #[.int .i64 0, .int .i64 0] 60)
  have hk := Blk.made w 60 #[.int .i64 0, .int .i64 0]
  have h1 := h.up hb
  have hsz : (w.alloc (.cells #[.int .i64 0, .int .i64 0] 60)).heap.size = w.heap.size + 1 := by simp
  have HB := Lib.hid hb
  have HK := Lib.hid hk
  have H1 := Lib.hid h1
  have HP := Lib.hid fun W => plain_ok c W
  have hbs := h.cell.lt
  have q0 := h.cell.cell (j := 0) rfl
  unfold lispE
  rcases lookSpec h1 c with ⟨x, hx, hl⟩ | ⟨hx, hl⟩
  · rw [hx]
    obtain ⟨a, b⟩ := x
    clear h h1 hb hk hx hsz
    go_enter Tryz.func34, Tryz.ntmps34
    go_wp2_with fail
    have k0 : ((w.alloc (.cells #[.int .i64 a, .int .i64 b] 60)).alloc (.cells #[.int .i64 a, .int .i64 b] 60)).cell? ⟨w.heap.size, 0, none⟩ = some (.int .i64 a) := ((Blk.made w 60 #[.int .i64 a, .int .i64 b]).up (below1 _ _)).cell (j := 0) rfl
    have k1 : ((w.alloc (.cells #[.int .i64 a, .int .i64 b] 60)).alloc (.cells #[.int .i64 a, .int .i64 b] 60)).cell? ⟨w.heap.size, 1, none⟩ = some (.int .i64 b) := ((Blk.made w 60 #[.int .i64 a, .int .i64 b]).up (below1 _ _)).cell (j := 1) rfl
    refine bodyPost_ret (v := .agg #[.int .i64 a, .int .i64 b]) (by simp [results, Tryz.f34, go_sem, k0, k1]) rfl ?_
    exact ⟨rfl, below2 w _ _⟩
  · rw [hx]
    simp only []
    have HB2 := Lib.hid (below2 w (.cells #[.int .i64 0, .int .i64 0] 60) (.cells #[.int .i64 0, .int .i64 0] 60))
    have HK2 := Lib.hid (hk.up (below1 _ (.cells #[.int .i64 0, .int .i64 0] 60)))
    clear h h1 hb hk hx hsz
    by_cases hr : 32 < c ∧ c < 127
    · have d1 : decide ((32 : Int) < (c : Int)) = true := decide_eq_true (by omega)
      have d2 : decide ((c : Int) < 127) = true := decide_eq_true (by omega)
      have hu := u8wrap c hr.2
      have HI := Lib.hid fun W => (show Calls Tryz.prog 35 #[.string symS, .int .u8 c] W _ from Any.strings_IndexByte Tryz.laysIdx symS c W)
      cases hsym : symB c with
      | true =>
        rw [if_pos ⟨hr.1, hr.2, rfl⟩]
        have d3 : decide ((0 : Int) ≤ Lib.indexByte symS.data.toList ((c : Int).toNat.toUInt8)) = true := hsym
        clear hr hsym
        go_enter Tryz.func34, Tryz.ntmps34
        go_wp2_with fail
        refine (HI.out _).mono ?_
        rintro e w3 ⟨rfl, rfl⟩
        generalize Lib.indexByte symS.data.toList ((c : Int).toNat.toUInt8) = R at *
        go_wp2_with fail
        have k0 : ((w.alloc (.cells #[.int .i64 2, .int .i64 0] 60)).alloc (.cells #[.int .i64 0, .int .i64 0] 60)).cell? ⟨w.heap.size, 0, none⟩ = some (.int .i64 2) := ((Blk.made w 60 #[.int .i64 2, .int .i64 0]).up (below1 _ _)).cell (j := 0) rfl
        have k1 : ((w.alloc (.cells #[.int .i64 2, .int .i64 0] 60)).alloc (.cells #[.int .i64 0, .int .i64 0] 60)).cell? ⟨w.heap.size, 1, none⟩ = some (.int .i64 0) := ((Blk.made w 60 #[.int .i64 2, .int .i64 0]).up (below1 _ _)).cell (j := 1) rfl
        refine bodyPost_ret (v := .agg #[.int .i64 2, .int .i64 0]) (by simp [results, Tryz.f34, go_sem, k0, k1]) rfl ?_
        exact ⟨rfl, below2 w _ _⟩
      | false =>
        rw [if_neg (by simp)]
        have d3 : decide ((0 : Int) ≤ Lib.indexByte symS.data.toList ((c : Int).toNat.toUInt8)) = false := hsym
        clear hr hsym
        go_enter Tryz.func34, Tryz.ntmps34
        go_wp2_with fail
        refine (HI.out _).mono ?_
        rintro e w3 ⟨rfl, rfl⟩
        generalize Lib.indexByte symS.data.toList ((c : Int).toNat.toUInt8) = R at *
        go_wp2_with fail
        refine (HP.out _).mono ?_
        rintro e w3 ⟨rfl, hb3⟩
        have hk3 := HK2.out.up hb3
        have k0 := hk3.cell (j := 0) rfl
        have k1 := hk3.cell (j := 1) rfl
        have f0 := hk3.fz 0
        have f1 := hk3.fz 1
        go_wp2_with fail
        have hk4 := (hk3.set (j := 0) (by simp) (.int .i64 (plainC c))).set (j := 1) (by simp) (.int .i64 0)
        have k0 := hk4.cell (j := 0) rfl
        have k1 := hk4.cell (j := 1) rfl
        refine bodyPost_ret (v := .agg #[.int .i64 (plainC c), .int .i64 0]) (by simp [results, Tryz.f34, go_sem, k0, k1]) rfl ?_
        exact ⟨rfl, ((HB2.out.trans (hb3.mono HB2.out.size)).setCell (p := ⟨w.heap.size, 0, none⟩) (Nat.le_refl _) _).setCell (p := ⟨w.heap.size, 1, none⟩) (Nat.le_refl _) _⟩
    · rw [if_neg (by omega)]
      by_cases h32 : 32 < c
      · have d1 : decide ((32 : Int) < (c : Int)) = true := decide_eq_true (by omega)
        have d2 : decide ((c : Int) < 127) = false := decide_eq_false (by omega)
        clear hr h32
        go_enter Tryz.func34, Tryz.ntmps34
        go_wp2_with fail
        refine (HP.out _).mono ?_
        rintro e w3 ⟨rfl, hb3⟩
        have hk3 := HK2.out.up hb3
        have k0 := hk3.cell (j := 0) rfl
        have k1 := hk3.cell (j := 1) rfl
        have f0 := hk3.fz 0
        have f1 := hk3.fz 1
        go_wp2_with fail
        have hk4 := (hk3.set (j := 0) (by simp) (.int .i64 (plainC c))).set (j := 1) (by simp) (.int .i64 0)
        have k0 := hk4.cell (j := 0) rfl
        have k1 := hk4.cell (j := 1) rfl
        refine bodyPost_ret (v := .agg #[.int .i64 (plainC c), .int .i64 0]) (by simp [results, Tryz.f34, go_sem, k0, k1]) rfl ?_
        exact ⟨rfl, ((HB2.out.trans (hb3.mono HB2.out.size)).setCell (p := ⟨w.heap.size, 0, none⟩) (Nat.le_refl _) _).setCell (p := ⟨w.heap.size, 1, none⟩) (Nat.le_refl _) _⟩
      · have d1 : decide ((32 : Int) < (c : Int)) = false := decide_eq_false (by omega)
        clear hr h32
        go_enter Tryz.func34, Tryz.ntmps34
        go_wp2_with fail
        refine (HP.out _).mono ?_
        rintro e w3 ⟨rfl, hb3⟩
        have hk3 := HK2.out.up hb3
        have k0 := hk3.cell (j := 0) rfl
        have k1 := hk3.cell (j := 1) rfl
        have f0 := hk3.fz 0
        have f1 := hk3.fz 1
        go_wp2_with fail
        have hk4 := (hk3.set (j := 0) (by simp) (.int .i64 (plainC c))).set (j := 1) (by simp) (.int .i64 0)
        have k0 := hk4.cell (j := 0) rfl
        have k1 := hk4.cell (j := 1) rfl
        refine bodyPost_ret (v := .agg #[.int .i64 (plainC c), .int .i64 0]) (by simp [results, Tryz.f34, go_sem, k0, k1]) rfl ?_
        exact ⟨rfl, ((HB2.out.trans (hb3.mono HB2.out.size)).setCell (p := ⟨w.heap.size, 0, none⟩) (Nat.le_refl _) _).setCell (p := ⟨w.heap.size, 1, none⟩) (Nat.le_refl _) _⟩
end
end Go.Proofs.YtklaeecegkpgmaaGreatDoor
/- package syntax: none, entry, Class, Copy, of the table of Lisp. -/
namespace Go.Proofs.YtklaeecegkpgmaaGreatDoor
open Go.RowKit
set_option linter.unusedVariables false
set_option linter.unusedSimpArgs false
section
variable {w w' : World} {tb bs ms mo : Nat}
theorem eqlFn (F : FuncId) (cp : Array Value) (w : World) : (binOp .eql 64 (.func (.func F) #[] cp) .nilFunc).run Tryz.prog w = .ok (.bool false) w := by kernel_rfl
set_option maxRecDepth 100000 in
set_option maxHeartbeats 1000000 in
theorem tnone_ok (h : LspT w tb bs ms mo) : Calls Tryz.prog 48 #[pAt tb] w fun e w' => e = .returned (.bool false) ∧ w = w' := by
  have c0 := h.blk.cell (j := 0) rfl
  have he := eqlFn 34 #[pAt bs]
  clear h
  go_enter Tryz.func48, Tryz.ntmps48
  go_wp2_with fail
  go_ret
  exact ⟨rfl, rfl⟩
set_option maxRecDepth 100000 in
set_option maxHeartbeats 4000000 in
theorem entry_ok (h : LspT w tb bs ms mo) (c : Nat) (hc : isN c) : Calls Tryz.prog 66 #[pAt tb, .int .i64 c] w fun e w' => e = .returned (.agg #[.int .i64 (lispE c).1, .int .i64 (lispE c).2]) ∧ Below w.heap.size w w' := by
  have hb := below1 w (.cells #[.int .i64 0, .int .i64 0] 60)
  have hk := Blk.made w 60 #[.int .i64 0, .int .i64 0]
  have h1 := h.up hb
  have HI := Lib.hid fun W => is_ok c hc W
  have HN := Lib.hid (tnone_ok h1)
  have H1 := Lib.hid h1
  have HK := Lib.hid hk
  have HB := Lib.hid hb
  obtain ⟨x, hx⟩ : ∃ x, (lispE c).1 = x := ⟨_, rfl⟩
  obtain ⟨y, hy⟩ : ∃ y, (lispE c).2 = y := ⟨_, rfl⟩
  have HX := Lib.hid (And.intro hx hy)
  rw [hx, hy]
  clear hx hy
  have hE := enters_mk Tryz.func34 (by kernel_rfl) rfl
  have hin : ∀ (args : Array Value) (w : World), (callFunc 34 args).run Tryz.prog w = .ok (.enter 34 args) w := hE
  clear h h1 hb hk hc hE
  go_enter Tryz.func66, Tryz.ntmps66
  go_wp2_with fail
  refine HN.out.mono ?_
  rintro e w1 ⟨rfl, rfl⟩
  go_wp2_with fail
  refine (HI.out _).mono ?_
  rintro e w1 ⟨rfl, rfl⟩
  have q1 := H1.out.blk.cell (j := 1) rfl
  have q0 := H1.out.blk.cell (j := 0) rfl
  have hlook := H1.out.own.look_none (P := Tryz.prog) mapTE keyTE (k := (c : Int)) (by rfl) true (zeroE _)
  have htb := H1.out.blk.lt
  generalize w.alloc (.cells #[.int .i64 0, .int .i64 0] 60) = W at *
  go_wp2_with fail
  have hb2 := below1 W (.cells #[.int .i64 0, .int .i64 0] 60)
  have hru := rule_ok (H1.out.up hb2) c
  rw [HX.out.1, HX.out.2] at hru
  refine hru.mono ?_
  rintro e w3 ⟨rfl, hb3⟩
  have hk3 := (HK.out.up hb2).up hb3
  have k0 := hk3.cell (j := 0) rfl
  have k1 := hk3.cell (j := 1) rfl
  have f0 := hk3.fz 0
  have f1 := hk3.fz 1
  go_wp2_with fail
  have hk4 := (hk3.set (j := 0) (by simp) (.int .i64 x)).set (j := 1) (by simp) (.int .i64 y)
  have k0 := hk4.cell (j := 0) rfl
  have k1 := hk4.cell (j := 1) rfl
  refine bodyPost_ret (v := .agg #[.int .i64 x, .int .i64 y]) (by simp [results, Tryz.f66, go_sem, k0, k1]) rfl ?_
  have hb4 : Below w.heap.size w w3 := up2 (up2 HB.out hb2) hb3
  exact ⟨rfl, (hb4.setCell (p := ⟨w.heap.size, 0, none⟩) (Nat.le_refl _) _).setCell (p := ⟨w.heap.size, 1, none⟩) (Nat.le_refl _) _⟩
theorem fieldE0 (x y : Int) (w : World) : (Instr.field 60 (.agg #[.int .i64 x, .int .i64 y]) 0).run Tryz.prog w = .ok (.int .i64 x) w := by kernel_rfl
set_option maxHeartbeats 1000000 in
theorem class_ok (h : LspT w tb bs ms mo) (c : Nat) (hc : isN c) : Calls Tryz.prog 30 #[pAt tb, .int .i64 c] w fun e w' => e = .returned (.int .i64 (lispC c)) ∧ Below w.heap.size w w' := by
  have HE := Lib.hid (entry_ok h c hc)
  unfold lispC
  generalize (lispE c).1 = x at *
  generalize (lispE c).2 = y at *
  have hf := fieldE0 x y
  clear h hc
  go_enter Tryz.func30, Tryz.ntmps30
  go_wp2_with fail
  refine HE.out.mono ?_
  rintro e w1 ⟨rfl, hb1⟩
  go_wp2_with fail
  go_ret
  exact ⟨rfl, hb1⟩
set_option maxRecDepth 100000 in
set_option maxHeartbeats 2000000 in
theorem tcopy_ok (h : LspT w tb bs ms mo) : Calls Tryz.prog 25 #[pAt tb] w fun e w' => ∃ k, e = .returned (pAt k) ∧ Below w.heap.size w w' := by
  have HN := Lib.hid (tnone_ok h)
  have H := Lib.hid h
  have c0 := h.blk.cell (j := 0) rfl
  have c1 := h.blk.cell (j := 1) rfl
  have htb := h.blk.lt
  have hmm := @run_makeMap Tryz.prog
  have hb2 := below2 w (.map #[] 0) (.cells #[.func (.func 34) #[] #[pAt bs], .map (some w.heap.size)] 66)
  obtain ⟨w3, hrange, hir, hb3, _⟩ := (H.out.up hb2).own.range (P := Tryz.prog) mapTE
  have hz2 : ((w.alloc (.map #[] 0)).alloc (.cells #[.func (.func 34) #[] #[pAt bs], .map (some w.heap.size)] 66)).heap.size = w.heap.size + 1 + 1 := by simp
  rw [hz2] at hir
  clear h hz2
  go_enter Tryz.func25, Tryz.ntmps25
  go_wp2_with fail
  refine HN.out.mono ?_
  rintro e w1 ⟨rfl, rfl⟩
  go_wp2_with fail
  clear hrange
  go_loopw [4] (fun _ wr => w3 = wr) (fun _ _ => 0)
  case atStart => rfl
  case round =>
    subst hrel
    rcases hir.next (P := Tryz.prog) with ⟨h0, hnx⟩ | ⟨k, v, w4, hk, _⟩
    · go_wp2_with fail
      go_ret
      exact ⟨_, rfl, up2 hb2 hb3⟩
    · cases hk
end
end Go.Proofs.YtklaeecegkpgmaaGreatDoor
