/- Registers: the set in memory; New, none, Get. -/
import Derived.Test.YtnbccoelbfgmgaaGreatDoorKgF
import Derived.Test.YtnbccoelbfgmgaaGreatDoorZ01
import Derived.BigRegion
namespace Go.Proofs.YtnbccoelbfgmgaaGreatDoor
open Go.RowKit
set_option linter.unusedVariables false
set_option linter.unusedSimpArgs false
section
variable {w w' : World} {b bm N : Nat}
theorem kplain_any (r : Reg) (w : World) (h : RSl encStr w r.A r.rows) (hl : r.rows.length ≤ 1000000) (hs : ∀ s ∈ r.rows, s.size ≤ 1000000000) (ht : r.text.size ≤ 1000000000) (hT : Tabs N w) (hN : N ≤ w.heap.size) :
    Calls Tryz.prog 51 #[regV r] w (PlPost w (plainC r.con) (plainE r.con)) := by
  by_cases h1 : r.kind = 1
  · cases hv : vld r.text with
    | true => exact kplain_text1 r w h1 ht hT hv
    | false => exact kplain_text0 r w h1 ht hT hv
  by_cases h2 : r.kind = 2
  · by_cases a : r.n < -2305843009213693952
    · exact kplain_int0a r w h2 a
    by_cases c : 2305843009213693951 < r.n
    · exact kplain_int0b r w h2 c
    exact kplain_int1 r w h2 (by omega) (by omega)
  by_cases h3 : r.kind = 3
  · by_cases a : r.n < 1
    · exact kplain_place0a r w h3 a
    by_cases c : r.id < 0
    · exact kplain_place0b r w h3 (by omega) c
    exact kplain_place1 r w h3 (by omega) (by omega)
  by_cases h4 : r.kind = 4
  · cases hv : r.rows.any (fun s => !vld s) with
    | true => exact kplain_rows0 r w h4 h hl hs hT hv
    | false => exact kplain_rows1 r w h4 h hl hs hT hv
  exact kplain_other r w h1 h2 h3 h4
theorem mapT : Tryz.prog.underlying 81 = some (.map 3 43) := Tryz.underlying81
theorem keyT : Tryz.prog.underlying 3 = some (.int .i64) := Tryz.underlying3
theorem zeroRg (w : World) : (zeroValue 43).run Tryz.prog w = .ok (regV zeroG) w := by kernel_rfl
theorem eqlMap (w : World) (r : Option Nat) : (binOp .eql 81 (.map r) (.map none)).run Tryz.prog w = .ok (.bool r.isNone) w := run_eql_map_nil w _ _ _ r mapT
/-- A register as it is kept. -/
structure RegOk (p : Int × Reg) : Prop where
  k0 : 0 ≤ p.1
  k1 : p.1 ≤ 1114111
  l : p.2.rows.length ≤ 1000000
  n : p.2.kind = 2 → -2305843009213693952 ≤ p.2.n ∧ p.2.n ≤ 2305843009213693951
/-- The registers at block b: a map at block bm. -/
structure RegsAt (w : World) (b bm : Nat) (m : List (Int × Reg)) : Prop where
  c0 : w.cell? ⟨b, 0, none⟩ = some (.map (some bm))
  im : IM w bm regV m
  regs : ∀ p ∈ m, RegIn w p.2
  ok : ∀ p ∈ m, RegOk p
variable {m : List (Int × Reg)}
theorem IM.cell {α : Type} {enc : α → Value} {m : List (Int × α)} (h : IM w bm enc m) (o : Nat) : w.cell? ⟨bm, o, none⟩ = none := by
  obtain ⟨l, clock, h, rfl⟩ := h
  simp [World.cell?, h.block]
theorem RegsAt.lt (h : RegsAt w b bm m) : b < w.heap.size := lt_of_cell h.c0
theorem RegsAt.ne (h : RegsAt w b bm m) : b ≠ bm := fun e => by have := h.im.cell 0; rw [← e, h.c0] at this; cases this
theorem RegsAt.up (h : RegsAt w b bm m) (hb : Below w.heap.size w w') : RegsAt w' b bm m :=
  ⟨(hb.cell (p := ⟨b, 0, none⟩) h.lt).trans h.c0, h.im.below hb h.im.lt, fun p hp => (h.regs p hp).up hb, h.ok⟩
theorem RSl.apart {α β : Type} {e1 : α → Value} {e2 : β → List Value} {m : List (Int × α)} {A : Option Addr} {xs : List β} (hm : IM w bm e1 m) (h : RSl e2 w A xs) (hk : ∀ x, 0 < (e2 x).length) (hp : 0 < xs.length) {g o : Nat} (e : A = some ⟨g, o, none⟩) : g ≠ bm := fun e' => by
  obtain ⟨g', o', e1, _, hc⟩ := h hp
  rw [e] at e1; cases e1
  have := hm.cell o
  subst e'
  cases xs with
  | nil => simp at hp
  | cons x xs =>
    have h1 := hc 0 ((e2 x)[0]'(hk x)) (by rw [cellsL_cons, List.getElem?_append_left (hk x)]; simp)
    rw [Nat.add_zero] at h1
    rw [h1] at this; cases this
/-- Registers that another set's call leaves. -/
theorem RegsAt.only {S : Nat → Prop} (h : RegsAt w b bm m) (ho : Only S w w') (h1 : ¬ S b) (h2 : ¬ S bm) (h3 : ∀ p ∈ m, 0 < p.2.rows.length → ∀ g o, p.2.A = some ⟨g, o, none⟩ → ¬ S g) : RegsAt w' b bm m :=
  ⟨(World.cell?_of_block (w := w) (a := ⟨b, 0, none⟩) (ho.block b h.lt h1)).trans h.c0, h.im.kept (ho.block bm h.im.lt h2), fun p hp => ⟨(h.regs p hp).i.only ho (h3 p hp), (h.regs p hp).l, (h.regs p hp).m⟩, h.ok⟩

def NewPost (w : World) (e : Ending) (w' : World) : Prop := ∃ b bm, e = .returned (.pointer (some ⟨b, 0, none⟩)) ∧ RegsAt w' b bm [] ∧ w.heap.size ≤ b ∧ w.heap.size ≤ bm ∧ Below w.heap.size w w'
set_option maxHeartbeats 400000 in
theorem regs_new (w : World) : Calls Tryz.prog 14 #[] w (NewPost w) := by
  have hmm := @run_makeMap Tryz.prog
  go_enter Tryz.func14, Tryz.ntmps14
  go_wp2_with fail
  go_ret
  refine ⟨_, _, rfl, ⟨?_, (IM.made w regV).below (below1 _ _) (by simp), by simp, by simp⟩, by simp, Nat.le_refl _, up2 (below1 _ _) (below1 _ _)⟩
  simp
set_option maxHeartbeats 400000 in
theorem none_no (h : RegsAt w b bm m) : Calls Tryz.prog 49 #[.pointer (some ⟨b, 0, none⟩)] w fun e w' => e = .returned (.bool false) ∧ w = w' := by
  have c0 := h.c0
  have hq := eqlMap
  go_enter Tryz.func49, Tryz.ntmps49
  go_wp2_with fail
  go_ret
  exact ⟨rfl, rfl⟩
/-- What Get hands back. -/
def GetPost (w : World) (o : Option Con) (e : Ending) (w' : World) : Prop := ∃ (y : Reg) (is : Bool), e = .returned (.tuple #[regV y, .bool is]) ∧ RegIn w' y ∧ RegFresh w.heap.size y ∧ Below w.heap.size w w' ∧ y.con = o.getD zeroCn ∧ is = o.isSome
set_option maxRecDepth 100000 in
set_option maxHeartbeats 1000000 in
theorem get_yes (h : RegsAt w b bm m) {c : Int} {x : Reg} (hx : lookM m c = some x) : Calls Tryz.prog 16 #[.pointer (some ⟨b, 0, none⟩), .int .i64 c] w (GetPost w (some x.con)) := by
  have c0 := h.c0
  have hl := fun w1 (hb : Below w.heap.size w w1) => (h.up hb).im.look_some mapT keyT hx true
  have l1 := hl _ (below1 w (.cells #[.int .i64 0, .int .i64 0, .int .i64 0, .string ⟨#[]⟩, .slice none 0 0] 43))
  have hlt := h.lt
  have hr := h.regs (c, x) (lookM_mem hx)
  have ho := h.ok (c, x) (lookM_mem hx)
  obtain ⟨k, n, id, t, A, cc, rows⟩ := x
  have HC := Lib.hid (fun (w1 : World) (hb : Below w.heap.size w w1) => clone_any (hr.i.up hb) cc ho.l)
  have H := Lib.hid h
  clear hl hr ho h hx
  simp only [if_true] at l1
  go_enter Tryz.func16, Tryz.ntmps16
  go_wp2_with fail
  refine ((none_no (H.out.up (below1 _ _))).mono ?_)
  rintro e w' ⟨rfl, rfl⟩
  go_wp2_with fail
  refine (HC.out _ (up2 (below1 _ _) (below1 _ _))).mono ?_
  rintro e w1 ⟨v, rfl, hown, hb⟩
  obtain ⟨A', c', rfl, hlc, hcm, hr⟩ := hown.shape eltStr
  obtain ⟨hc, hf⟩ := bcell hb
  have hz := hb.size
  have HB := Lib.hid (up2 (up2 (below1 _ _) (below1 _ _)) hb)
  have HO := Lib.hid hown
  have HR := Lib.hid hr
  simp at hz
  have hz0 : w.heap.size < w1.heap.size := by omega
  have hz1 : w.heap.size + 1 < w1.heap.size := by omega
  have k0 := hc w.heap.size 0 (by simp; omega)
  have k1 := hc w.heap.size 1 (by simp; omega)
  have k2 := hc w.heap.size 2 (by simp; omega)
  have k3 := hc w.heap.size 3 (by simp; omega)
  have k4 := hc w.heap.size 4 (by simp; omega)
  simp at k0 k1 k2 k3 k4
  clear hown hr hb c0 l1
  go_wp2_with fail
  refine bodyPost_ret (v := .tuple #[regV ⟨k, n, id, t, A', c', rows⟩, .bool true]) (by simp [results, Tryz.f16, go_sem, k0, k1, k2, k3, k4]) rfl ⟨⟨k, n, id, t, A', c', rows⟩, true, rfl, ⟨?_, hlc, hcm⟩, ?_, ?_, rfl, rfl⟩
  · have hne : ∀ n, n < w.heap.size + 2 → 0 < rows.length → ∀ g o, A' = some ⟨g, o, none⟩ → g ≠ n := fun n hn hp g o e => by have h1 := HO.out.base (g := g) (by rw [e]; rfl); simp at h1; omega
    have h1 := HR.out.set (w.heap.size + 1) 4 (.slice A' rows.length c') (hne _ (by omega))
    exact ((((h1.set w.heap.size 0 _ (hne _ (by omega))).set w.heap.size 1 _ (hne _ (by omega))).set w.heap.size 2 _ (hne _ (by omega))).set w.heap.size 3 _ (hne _ (by omega))).set w.heap.size 4 _ (hne _ (by omega))
  · intro hp g o e
    replace e : A' = some ⟨g, o, .none⟩ := e
    have h1 := HO.out.base (g := g) (by rw [e]; rfl)
    simp at h1
    show w.heap.size ≤ g
    omega
  · repeat (refine set_below ?_ _ _ _ (by omega))
    exact HB.out
set_option maxRecDepth 100000 in
set_option maxHeartbeats 1000000 in
theorem get_no (h : RegsAt w b bm m) {c : Int} (hx : lookM m c = none) : Calls Tryz.prog 16 #[.pointer (some ⟨b, 0, none⟩), .int .i64 c] w (GetPost w none) := by
  have c0 := h.c0
  have hl := fun w1 (hb : Below w.heap.size w w1) => (h.up hb).im.look_none mapT keyT hx true (zeroRg w1)
  have l1 := hl _ (below1 w (.cells #[.int .i64 0, .int .i64 0, .int .i64 0, .string ⟨#[]⟩, .slice none 0 0] 43))
  have hlt := h.lt
  have HC := Lib.hid (fun (w1 : World) => clone_any (w := w1) (RSl.nil w1 none) 0 (by simp))
  have H := Lib.hid h
  clear hl h hx
  simp only [if_true, zeroG, regV, List.length_nil] at l1
  go_enter Tryz.func16, Tryz.ntmps16
  go_wp2_with fail
  refine ((none_no (H.out.up (below1 _ _))).mono ?_)
  rintro e w' ⟨rfl, rfl⟩
  go_wp2_with fail
  refine (HC.out _).mono ?_
  rintro e w1 ⟨v, rfl, hown, hb⟩
  obtain ⟨A', c', rfl, hlc, hcm, hr⟩ := hown.shape eltStr
  obtain ⟨hc, hf⟩ := bcell hb
  have hz := hb.size
  have HB := Lib.hid (up2 (up2 (below1 _ _) (below1 _ _)) hb)
  simp at hz
  have hz0 : w.heap.size < w1.heap.size := by omega
  have hz1 : w.heap.size + 1 < w1.heap.size := by omega
  have k0 := hc w.heap.size 0 (by simp; omega)
  have k1 := hc w.heap.size 1 (by simp; omega)
  have k2 := hc w.heap.size 2 (by simp; omega)
  have k3 := hc w.heap.size 3 (by simp; omega)
  have k4 := hc w.heap.size 4 (by simp; omega)
  simp at k0 k1 k2 k3 k4
  clear hown hr hb c0 l1
  simp only [List.length_nil]
  go_wp2_with fail
  refine bodyPost_ret (v := .tuple #[regV ⟨0, 0, 0, ⟨#[]⟩, A', c', []⟩, .bool false]) (by simp [results, Tryz.f16, go_sem, k0, k1, k2, k3, k4]) rfl ⟨⟨0, 0, 0, ⟨#[]⟩, A', c', []⟩, false, rfl, ⟨RSl.nil _ _, hlc, hcm⟩, fun h => by simp at h, ?_, rfl, rfl⟩
  repeat (refine set_below ?_ _ _ _ (by omega))
  exact HB.out
theorem get_any (h : RegsAt w b bm m) (c : Int) : Calls Tryz.prog 16 #[.pointer (some ⟨b, 0, none⟩), .int .i64 c] w (GetPost w ((lookM m c).map Reg.con)) := by
  cases hx : lookM m c with
  | none => exact get_no h hx
  | some x => exact get_yes h hx
end
end Go.Proofs.YtnbccoelbfgmgaaGreatDoor
