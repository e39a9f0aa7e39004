/- Registers: a register, its content; kill.plain. -/
import Derived.Test.YtnbccoelbfgmgaaGreatDoorKgB
namespace Go.Proofs.YtnbccoelbfgmgaaGreatDoor
open Go.RowKit
set_option linter.unusedVariables false
set_option linter.unusedSimpArgs false
/-- What a register says. -/
structure Con where
  kind : Int
  n : Int
  id : Int
  text : ByteArray
  rows : List ByteArray
/-- A register with the slice that holds its rows. -/
structure Reg where
  kind : Int
  n : Int
  id : Int
  text : ByteArray
  A : Option Addr
  c : Nat
  rows : List ByteArray
def Reg.con (r : Reg) : Con := ⟨r.kind, r.n, r.id, r.text, r.rows⟩
abbrev regV (r : Reg) : Value := .agg #[.int .i64 r.kind, .int .i64 r.n, .int .i64 r.id, .string r.text, .slice r.A r.rows.length r.c]
abbrev encRg (r : Reg) : List Value := [.int .i64 r.kind, .int .i64 r.n, .int .i64 r.id, .string r.text, .slice r.A r.rows.length r.c]
def zeroG : Reg := ⟨0, 0, 0, ⟨#[]⟩, none, 0, []⟩
def zeroCn : Con := ⟨0, 0, 0, ⟨#[]⟩, []⟩
/-- A register's rows lie in memory. -/
structure RegIn (w : World) (r : Reg) : Prop where
  i : RSl encStr w r.A r.rows
  l : r.rows.length ≤ r.c
  m : r.c ≤ maxLen
theorem RegIn.up {w w' : World} {r : Reg} (h : RegIn w r) (hb : Below w.heap.size w w') : RegIn w' r := ⟨h.i.up hb, h.l, h.m⟩
/-- Its rows lie in no block below B. -/
def RegFresh (B : Nat) (r : Reg) : Prop := 0 < r.rows.length → ∀ g o, r.A = some ⟨g, o, none⟩ → B ≤ g
def lowI : Int := -2305843009213693952
def highI : Int := 2305843009213693951
def plainE (x : Con) : Int :=
  if x.kind = 1 then (if vld x.text then 0 else 5)
  else if x.kind = 2 then (if lowI ≤ x.n ∧ x.n ≤ highI then 0 else 2)
  else if x.kind = 3 then (if 1 ≤ x.n ∧ 0 ≤ x.id then 0 else 2)
  else if x.kind = 4 then (if x.rows.any (fun s => !vld s) then 5 else 0)
  else 2
def plainC (x : Con) : Con :=
  if plainE x = 0 then
    (if x.kind = 1 then ⟨1, 0, 0, x.text, []⟩
    else if x.kind = 2 then ⟨2, x.n, 0, ⟨#[]⟩, []⟩
    else if x.kind = 3 then ⟨3, x.n, x.id, ⟨#[]⟩, []⟩
    else ⟨4, 0, 0, ⟨#[]⟩, x.rows⟩)
  else zeroCn
section
variable {n id : Int} {t : ByteArray} {rows : List ByteArray}
theorem plE_text1 (hv : vld t = true) : plainE ⟨1, n, id, t, rows⟩ = 0 := by simp [plainE, hv]
theorem plE_text0 (hv : vld t = false) : plainE ⟨1, n, id, t, rows⟩ = 5 := by simp [plainE, hv]
theorem plE_int1 (h0 : -2305843009213693952 ≤ n) (h1 : n ≤ 2305843009213693951) : plainE ⟨2, n, id, t, rows⟩ = 0 := by simp [plainE, lowI, highI, h0, h1]
theorem plE_int0a (h0 : n < -2305843009213693952) : plainE ⟨2, n, id, t, rows⟩ = 2 := by simp [plainE, lowI, highI]; omega
theorem plE_int0b (h0 : 2305843009213693951 < n) : plainE ⟨2, n, id, t, rows⟩ = 2 := by simp [plainE, lowI, highI]; omega
theorem plE_place1 (h0 : 1 ≤ n) (h1 : 0 ≤ id) : plainE ⟨3, n, id, t, rows⟩ = 0 := by simp [plainE, h0, h1]
theorem plE_place0a (h0 : n < 1) : plainE ⟨3, n, id, t, rows⟩ = 2 := by simp [plainE]; omega
theorem plE_place0b (h2 : 1 ≤ n) (h0 : id < 0) : plainE ⟨3, n, id, t, rows⟩ = 2 := by simp [plainE]; omega
theorem plE_rows1 (h : rows.any (fun s => !vld s) = false) : plainE ⟨4, n, id, t, rows⟩ = 0 := by simp only [plainE, h]; rfl
theorem plE_rows0 (h : rows.any (fun s => !vld s) = true) : plainE ⟨4, n, id, t, rows⟩ = 5 := by simp only [plainE, h]; rfl
theorem plE_other {k : Int} (h2 : k ≠ 1) (h3 : k ≠ 2) (h4 : k ≠ 3) (h5 : k ≠ 4) : plainE ⟨k, n, id, t, rows⟩ = 2 := by simp [plainE, h2, h3, h4, h5]
end
def PlPost (w : World) (c : Con) (er : Int) (e : Ending) (w' : World) : Prop := ∃ y : Reg, e = .returned (.tuple #[regV y, .int .i64 er]) ∧ y.con = c ∧ RegIn w' y ∧ RegFresh w.heap.size y ∧ Below w.heap.size w w'
theorem RegIn.none (w : World) (a b c : Int) (t : ByteArray) : RegIn w ⟨a, b, c, t, .none, 0, []⟩ := ⟨RSl.nil _ _, by simp, by simp [maxLen]⟩
theorem RegFresh.none (B : Nat) (a b c : Int) (t : ByteArray) : RegFresh B ⟨a, b, c, t, .none, 0, []⟩ := fun h => by simp at h
theorem bcell {W w1 : World} (hb : Below W.heap.size W w1) : (∀ b o, b < W.heap.size → w1.cell? ⟨b, o, none⟩ = W.cell? ⟨b, o, none⟩) ∧ (∀ b o, b < W.heap.size → w1.frozen? ⟨b, o, none⟩ = W.frozen? ⟨b, o, none⟩) :=
  ⟨fun b o h => hb.cell (p := ⟨b, o, none⟩) h, fun b o h => hb.frozen (p := ⟨b, o, none⟩) h⟩
theorem set_below {n : Nat} {a w : World} (h : Below n a w) (b i : Nat) (u : Value) (hb : n ≤ b) : Below n a (w.setCell ⟨b, i, none⟩ u) := h.setCell (p := ⟨b, i, none⟩) hb u
theorem pl_none {w w' : World} {er : Int} (a b c : Int) (t : ByteArray) {e : Ending} (he : e = .returned (.tuple #[.agg #[.int .i64 a, .int .i64 b, .int .i64 c, .string t, .slice none 0 0], .int .i64 er])) (hb : Below w.heap.size w w') : PlPost w ⟨a, b, c, t, []⟩ er e w' :=
  ⟨⟨a, b, c, t, none, 0, []⟩, he, rfl, RegIn.none _ _ _ _ _, RegFresh.none _ _ _ _ _, hb⟩
theorem RSl.only {α : Type} {enc : α → List Value} {S : Nat → Prop} {w w' : World} {A : Option Addr} {xs : List α} (h : RSl enc w A xs) (ho : Only S w w') (hs : 0 < xs.length → ∀ g o, A = some ⟨g, o, none⟩ → ¬ S g) : RSl enc w' A xs := fun hp => by
  obtain ⟨g, o, e, hg, hc⟩ := h hp
  exact ⟨g, o, e, Nat.lt_of_lt_of_le hg ho.size, fun j u hu => (World.cell?_of_block (w := w) (a := ⟨g, o + j, none⟩) (ho.block g hg (hs hp g o e))).trans (hc j u hu)⟩
theorem RSl.set {α : Type} {enc : α → List Value} {w : World} {A : Option Addr} {xs : List α} (h : RSl enc w A xs) (b i : Nat) (u : Value) (hs : 0 < xs.length → ∀ g o, A = some ⟨g, o, none⟩ → g ≠ b) : RSl enc (w.setCell ⟨b, i, none⟩ u) A xs :=
  h.only (S := fun x => x = b) ((Only.refl (fun x => x = b) w).setCell (p := ⟨b, i, none⟩) rfl u) (fun hp g o he e => hs hp g o he e)
theorem RSl.lt {α : Type} {enc : α → List Value} {w : World} {A : Option Addr} {xs : List α} (h : RSl enc w A xs) (hp : 0 < xs.length) {g o : Nat} (e : A = some ⟨g, o, none⟩) : g < w.heap.size := by
  obtain ⟨g', o', e', hg, _⟩ := h hp
  rw [e] at e'; cases e'; exact hg
section
variable {w w' : World} {N : Nat}
set_option maxRecDepth 100000 in
set_option maxHeartbeats 1000000 in
theorem kplain_text1 (r : Reg) (w : World) (hk : r.kind = 1) (hs : r.text.size ≤ 1000000000) (hT : Tabs N w) (hv : vld r.text = true) :
    Calls Tryz.prog 51 #[regV r] w (PlPost w (plainC r.con) (plainE r.con)) := by
  have HV := Lib.hid (fun (w1 : World) (hb : Below w.heap.size w w1) => wrong_any (N := N) r.text w1 hs (hT.up hb))
  obtain ⟨k, n, id, t, A, c, rows⟩ := r
  obtain rfl : k = 1 := hk
  have e1 : plainE (Reg.con ⟨1, n, id, t, A, c, rows⟩) = 0 := plE_text1 hv
  have e2 : plainC (Reg.con ⟨1, n, id, t, A, c, rows⟩) = ⟨1, 0, 0, t, []⟩ := by unfold plainC; rw [if_pos e1]; rfl
  rw [e1, e2]
  clear e1 e2
  replace hv : vld t = true := hv
  simp only [hv] at HV
  clear hv
  go_enter Tryz.func51, Tryz.ntmps51
  go_wp2_with fail
  refine (HV.out _ (up2 (up2 (below1 _ _) (below1 _ _)) (below1 _ _))).mono ?_
  rintro e w1 ⟨rfl, hb⟩
  obtain ⟨hc, hf⟩ := bcell hb
  have HB := Lib.hid (up2 (up2 (up2 (below1 _ _) (below1 _ _)) (below1 _ _)) hb)
  clear hb
  go_wp2_with fail
  refine bodyPost_ret (v := .tuple #[.agg #[.int .i64 1, .int .i64 0, .int .i64 0, .string t, .slice none 0 0], .int .i64 0]) (by simp [results, Tryz.f51, go_sem, hc, hf]) rfl (pl_none _ _ _ _ rfl ?_)
  repeat (refine set_below ?_ _ _ _ (by omega))
  exact HB.out
set_option maxRecDepth 100000 in
set_option maxHeartbeats 1000000 in
theorem kplain_text0 (r : Reg) (w : World) (hk : r.kind = 1) (hs : r.text.size ≤ 1000000000) (hT : Tabs N w) (hv : vld r.text = false) :
    Calls Tryz.prog 51 #[regV r] w (PlPost w (plainC r.con) (plainE r.con)) := by
  have HV := Lib.hid (fun (w1 : World) (hb : Below w.heap.size w w1) => wrong_any (N := N) r.text w1 hs (hT.up hb))
  obtain ⟨k, n, id, t, A, c, rows⟩ := r
  obtain rfl : k = 1 := hk
  have e1 : plainE (Reg.con ⟨1, n, id, t, A, c, rows⟩) = 5 := plE_text0 hv
  have e2 : plainC (Reg.con ⟨1, n, id, t, A, c, rows⟩) = zeroCn := by unfold plainC; rw [e1]; rfl
  rw [e1, e2]
  clear e1 e2
  replace hv : vld t = false := hv
  simp only [hv] at HV
  clear hv
  go_enter Tryz.func51, Tryz.ntmps51
  go_wp2_with fail
  refine (HV.out _ (up2 (up2 (below1 _ _) (below1 _ _)) (below1 _ _))).mono ?_
  rintro e w1 ⟨rfl, hb⟩
  obtain ⟨hc, hf⟩ := bcell hb
  have HB := Lib.hid (up2 (up2 (up2 (below1 _ _) (below1 _ _)) (below1 _ _)) hb)
  clear hb
  go_wp2_with fail
  refine bodyPost_ret (v := .tuple #[.agg #[.int .i64 0, .int .i64 0, .int .i64 0, .string ⟨#[]⟩, .slice none 0 0], .int .i64 5]) (by simp [results, Tryz.f51, go_sem, hc, hf]) rfl (pl_none _ _ _ _ rfl ?_)
  repeat (refine set_below ?_ _ _ _ (by omega))
  exact HB.out
set_option maxRecDepth 100000 in
set_option maxHeartbeats 1000000 in
theorem kplain_int1 (r : Reg) (w : World) (hk : r.kind = 2) (h0 : -2305843009213693952 ≤ r.n) (h1 : r.n ≤ 2305843009213693951) :
    Calls Tryz.prog 51 #[regV r] w (PlPost w (plainC r.con) (plainE r.con)) := by
  skip
  obtain ⟨k, n, id, t, A, c, rows⟩ := r
  obtain rfl : k = 2 := hk
  have e1 : plainE (Reg.con ⟨2, n, id, t, A, c, rows⟩) = 0 := plE_int1 h0 h1
  have e2 : plainC (Reg.con ⟨2, n, id, t, A, c, rows⟩) = ⟨2, n, 0, ⟨#[]⟩, []⟩ := by unfold plainC; rw [if_pos e1]; rfl
  rw [e1, e2]
  clear e1 e2
  replace h0 : -2305843009213693952 ≤ n := h0
  replace h1 : n ≤ 2305843009213693951 := h1
  have d0 : decide (n < (-2305843009213693952 : Int)) = false := by simp; omega
  have d1 : decide ((2305843009213693951 : Int) < n) = false := by simp; omega
  clear h0 h1
  go_enter Tryz.func51, Tryz.ntmps51
  go_wp2_with fail
  refine bodyPost_ret (v := .tuple #[.agg #[.int .i64 2, .int .i64 n, .int .i64 0, .string ⟨#[]⟩, .slice none 0 0], .int .i64 0]) (by simp [results, Tryz.f51, go_sem]) rfl (pl_none _ _ _ _ rfl ?_)
  repeat (refine set_below ?_ _ _ _ (by omega))
  exact up2 (up2 (below1 _ _) (below1 _ _)) (below1 _ _)
set_option maxRecDepth 100000 in
set_option maxHeartbeats 1000000 in
theorem kplain_int0a (r : Reg) (w : World) (hk : r.kind = 2) (h0 : r.n < -2305843009213693952) :
    Calls Tryz.prog 51 #[regV r] w (PlPost w (plainC r.con) (plainE r.con)) := by
  skip
  obtain ⟨k, n, id, t, A, c, rows⟩ := r
  obtain rfl : k = 2 := hk
  have e1 : plainE (Reg.con ⟨2, n, id, t, A, c, rows⟩) = 2 := plE_int0a h0
  have e2 : plainC (Reg.con ⟨2, n, id, t, A, c, rows⟩) = zeroCn := by unfold plainC; rw [e1]; rfl
  rw [e1, e2]
  clear e1 e2
  replace h0 : n < -2305843009213693952 := h0
  have d0 : decide (n < (-2305843009213693952 : Int)) = true := by simp; omega
  clear h0
  go_enter Tryz.func51, Tryz.ntmps51
  go_wp2_with fail
  refine bodyPost_ret (v := .tuple #[.agg #[.int .i64 0, .int .i64 0, .int .i64 0, .string ⟨#[]⟩, .slice none 0 0], .int .i64 2]) (by simp [results, Tryz.f51, go_sem]) rfl (pl_none _ _ _ _ rfl ?_)
  repeat (refine set_below ?_ _ _ _ (by omega))
  exact up2 (up2 (below1 _ _) (below1 _ _)) (below1 _ _)
set_option maxRecDepth 100000 in
set_option maxHeartbeats 1000000 in
theorem kplain_int0b (r : Reg) (w : World) (hk : r.kind = 2) (h0 : 2305843009213693951 < r.n) :
    Calls Tryz.prog 51 #[regV r] w (PlPost w (plainC r.con) (plainE r.con)) := by
  skip
  obtain ⟨k, n, id, t, A, c, rows⟩ := r
  obtain rfl : k = 2 := hk
  have e1 : plainE (Reg.con ⟨2, n, id, t, A, c, rows⟩) = 2 := plE_int0b h0
  have e2 : plainC (Reg.con ⟨2, n, id, t, A, c, rows⟩) = zeroCn := by unfold plainC; rw [e1]; rfl
  rw [e1, e2]
  clear e1 e2
  replace h0 : 2305843009213693951 < n := h0
  have d0 : decide (n < (-2305843009213693952 : Int)) = false := by simp; omega
  have d1 : decide ((2305843009213693951 : Int) < n) = true := by simp; omega
  clear h0
  go_enter Tryz.func51, Tryz.ntmps51
  go_wp2_with fail
  refine bodyPost_ret (v := .tuple #[.agg #[.int .i64 0, .int .i64 0, .int .i64 0, .string ⟨#[]⟩, .slice none 0 0], .int .i64 2]) (by simp [results, Tryz.f51, go_sem]) rfl (pl_none _ _ _ _ rfl ?_)
  repeat (refine set_below ?_ _ _ _ (by omega))
  exact up2 (up2 (below1 _ _) (below1 _ _)) (below1 _ _)
set_option maxRecDepth 100000 in
set_option maxHeartbeats 1000000 in
theorem kplain_place1 (r : Reg) (w : World) (hk : r.kind = 3) (h0 : 1 ≤ r.n) (h1 : 0 ≤ r.id) :
    Calls Tryz.prog 51 #[regV r] w (PlPost w (plainC r.con) (plainE r.con)) := by
  skip
  obtain ⟨k, n, id, t, A, c, rows⟩ := r
  obtain rfl : k = 3 := hk
  have e1 : plainE (Reg.con ⟨3, n, id, t, A, c, rows⟩) = 0 := plE_place1 h0 h1
  have e2 : plainC (Reg.con ⟨3, n, id, t, A, c, rows⟩) = ⟨3, n, id, ⟨#[]⟩, []⟩ := by unfold plainC; rw [if_pos e1]; rfl
  rw [e1, e2]
  clear e1 e2
  replace h0 : 1 ≤ n := h0
  replace h1 : 0 ≤ id := h1
  have d0 : decide (n < (1 : Int)) = false := by simp; omega
  have d1 : decide (id < (0 : Int)) = false := by simp; omega
  clear h0 h1
  go_enter Tryz.func51, Tryz.ntmps51
  go_wp2_with fail
  go_region
  go_wp2_with fail
  refine bodyPost_ret (v := .tuple #[.agg #[.int .i64 3, .int .i64 n, .int .i64 id, .string ⟨#[]⟩, .slice none 0 0], .int .i64 0]) (by simp [results, Tryz.f51, go_sem]) rfl (pl_none _ _ _ _ rfl ?_)
  exact (up2 (up2 (below1 _ _) (below1 _ _)) (below1 _ _)).drew
set_option maxRecDepth 100000 in
set_option maxHeartbeats 1000000 in
theorem kplain_place0a (r : Reg) (w : World) (hk : r.kind = 3) (h0 : r.n < 1) :
    Calls Tryz.prog 51 #[regV r] w (PlPost w (plainC r.con) (plainE r.con)) := by
  skip
  obtain ⟨k, n, id, t, A, c, rows⟩ := r
  obtain rfl : k = 3 := hk
  have e1 : plainE (Reg.con ⟨3, n, id, t, A, c, rows⟩) = 2 := plE_place0a h0
  have e2 : plainC (Reg.con ⟨3, n, id, t, A, c, rows⟩) = zeroCn := by unfold plainC; rw [e1]; rfl
  rw [e1, e2]
  clear e1 e2
  replace h0 : n < 1 := h0
  have d0 : decide (n < (1 : Int)) = true := by simp; omega
  clear h0
  go_enter Tryz.func51, Tryz.ntmps51
  go_wp2_with fail
  go_region
  go_wp2_with fail
  refine bodyPost_ret (v := .tuple #[.agg #[.int .i64 0, .int .i64 0, .int .i64 0, .string ⟨#[]⟩, .slice none 0 0], .int .i64 2]) (by simp [results, Tryz.f51, go_sem]) rfl (pl_none _ _ _ _ rfl ?_)
  exact (up2 (up2 (below1 _ _) (below1 _ _)) (below1 _ _)).drew
set_option maxRecDepth 100000 in
set_option maxHeartbeats 1000000 in
theorem kplain_place0b (r : Reg) (w : World) (hk : r.kind = 3) (h2 : 1 ≤ r.n) (h0 : r.id < 0) :
    Calls Tryz.prog 51 #[regV r] w (PlPost w (plainC r.con) (plainE r.con)) := by
  skip
  obtain ⟨k, n, id, t, A, c, rows⟩ := r
  obtain rfl : k = 3 := hk
  have e1 : plainE (Reg.con ⟨3, n, id, t, A, c, rows⟩) = 2 := plE_place0b h2 h0
  have e2 : plainC (Reg.con ⟨3, n, id, t, A, c, rows⟩) = zeroCn := by unfold plainC; rw [e1]; rfl
  rw [e1, e2]
  clear e1 e2
  replace h0 : id < 0 := h0
  replace h2 : 1 ≤ n := h2
  have d0 : decide (n < (1 : Int)) = false := by simp; omega
  have d1 : decide (id < (0 : Int)) = true := by simp; omega
  clear h0 h2
  go_enter Tryz.func51, Tryz.ntmps51
  go_wp2_with fail
  go_region
  go_wp2_with fail
  refine bodyPost_ret (v := .tuple #[.agg #[.int .i64 0, .int .i64 0, .int .i64 0, .string ⟨#[]⟩, .slice none 0 0], .int .i64 2]) (by simp [results, Tryz.f51, go_sem]) rfl (pl_none _ _ _ _ rfl ?_)
  exact (up2 (up2 (below1 _ _) (below1 _ _)) (below1 _ _)).drew
set_option maxRecDepth 100000 in
set_option maxHeartbeats 1000000 in
theorem kplain_other (r : Reg) (w : World) (h2 : r.kind ≠ 1) (h3 : r.kind ≠ 2) (h4 : r.kind ≠ 3) (h5 : r.kind ≠ 4) :
    Calls Tryz.prog 51 #[regV r] w (PlPost w (plainC r.con) (plainE r.con)) := by
  skip
  obtain ⟨k, n, id, t, A, c, rows⟩ := r
  replace h2 : k ≠ 1 := h2
  replace h3 : k ≠ 2 := h3
  replace h4 : k ≠ 3 := h4
  replace h5 : k ≠ 4 := h5
  have e1 : plainE (Reg.con ⟨k, n, id, t, A, c, rows⟩) = 2 := plE_other h2 h3 h4 h5
  have e2 : plainC (Reg.con ⟨k, n, id, t, A, c, rows⟩) = zeroCn := by unfold plainC; rw [e1]; rfl
  rw [e1, e2]
  clear e1 e2
  have d1 : (k == 1) = false := by simpa using h2
  have d2 : (k == 2) = false := by simpa using h3
  have d3 : (k == 3) = false := by simpa using h4
  have d4 : (k == 4) = false := by simpa using h5
  clear h2 h3 h4 h5
  skip
  go_enter Tryz.func51, Tryz.ntmps51
  go_wp2_with fail
  refine bodyPost_ret (v := .tuple #[.agg #[.int .i64 0, .int .i64 0, .int .i64 0, .string ⟨#[]⟩, .slice none 0 0], .int .i64 2]) (by simp [results, Tryz.f51, go_sem]) rfl (pl_none _ _ _ _ rfl ?_)
  repeat (refine set_below ?_ _ _ _ (by omega))
  exact up2 (up2 (below1 _ _) (below1 _ _)) (below1 _ _)
end
end Go.Proofs.YtnbccoelbfgmgaaGreatDoor
