/- Package marks: the set in memory; made, place, New, known, At, Advance, Many, Drop. -/
import Derived.Test.YtlnpjdihdemgmaaMap
namespace Go.Proofs.Ytlnpjdihdemgmaa
open Go.RowKit
set_option linter.unusedVariables false

abbrev Mk := Int × Bool
abbrev encM (x : Mk) : Value := .agg #[.int .i64 x.1, .bool x.2]
theorem mapT : Try.prog.underlying 60 = some (.map 3 65) := Try.underlying60
theorem keyT : Try.prog.underlying 3 = some (.int .i64) := Try.underlying3
theorem zeroMk (w : World) : (zeroValue 65).run Try.prog w = .ok (encM (0, false)) w := by kernel_rfl
theorem neqMap (w : World) (r : Option Nat) : (binOp .neq 60 (.map r) (.map none)).run Try.prog w = .ok (.bool (!r.isNone)) w := run_neq_map_nil w _ _ _ r mapT

theorem fieldMk0 (x : Mk) (w : World) : (Instr.field 65 (encM x) 0).run Try.prog w = .ok (.int .i64 x.1) w := by kernel_rfl
theorem fieldMk1 (x : Mk) (w : World) : (Instr.field 65 (encM x) 1).run Try.prog w = .ok (.bool x.2) w := by kernel_rfl

/-- The set of marks at block b: its map at block bm holds m; the next number is n. -/
structure MarksAt (w : World) (b bm : Nat) (m : List (Int × Mk)) (n : Int) : Prop where
  c0 : w.cell? ⟨b, 0, none⟩ = some (.map (some bm))
  c1 : w.cell? ⟨b, 1, none⟩ = some (.int .i64 n)
  f1 : w.frozen? ⟨b, 1, none⟩ = false
  im : IM w bm encM m
  ids : ∀ p ∈ m, 0 ≤ p.1 ∧ p.1 < n
  ats : ∀ p ∈ m, 1 ≤ p.2.1 ∧ p.2.1 ≤ 1099511627776
theorem MarksAt.lt {w : World} {b bm : Nat} {m : List (Int × Mk)} {n : Int} (h : MarksAt w b bm m n) : b < w.heap.size := lt_of_cell h.c0
theorem MarksAt.ne {w : World} {b bm : Nat} {m : List (Int × Mk)} {n : Int} (h : MarksAt w b bm m n) : b ≠ bm := by
  obtain ⟨l, clock, h1, _⟩ := h.im
  intro e
  have := h.c0
  simp [World.cell?, e, h1.block] at this
theorem MarksAt.kept {w w' : World} {b bm : Nat} {m : List (Int × Mk)} {n : Int} (h : MarksAt w b bm m n) (hb : w'.heap[b]? = w.heap[b]?) (hm : w'.heap[bm]? = w.heap[bm]?) : MarksAt w' b bm m n :=
  ⟨(World.cell?_of_block (w := w) (a := ⟨b, 0, none⟩) hb).trans h.c0, (World.cell?_of_block (w := w) (a := ⟨b, 1, none⟩) hb).trans h.c1, (World.frozen?_of_block (w := w) (a := ⟨b, 1, none⟩) hb).trans h.f1, h.im.kept hm, h.ids, h.ats⟩
theorem MarksAt.below {w w' : World} {b bm B : Nat} {m : List (Int × Mk)} {n : Int} (h : MarksAt w b bm m n) (hb : Below B w w') (h1 : b < B) (h2 : bm < B) : MarksAt w' b bm m n := h.kept (hb.block b h1) (hb.block bm h2)
theorem MarksAt.up {w w' : World} {b bm : Nat} {m : List (Int × Mk)} {n : Int} (h : MarksAt w b bm m n) (hb : Below w.heap.size w w') : MarksAt w' b bm m n := h.below hb h.lt h.im.lt

def placeI (at_ : Int) : Bool := decide (1 ≤ at_) && decide (at_ ≤ 1099511627776)
theorem placeI_true {a : Int} (h : placeI a = true) : 1 ≤ a ∧ a ≤ 1099511627776 := by simpa [placeI] using h

set_option maxHeartbeats 400000 in
theorem place_any (a : Int) (w : World) : Calls Try.prog 35 #[.int .i64 a] w fun e w' => e = .returned (.bool (placeI a)) ∧ w = w' := by
  go_enter Try.func35, Try.ntmps35
  go_wp2
  all_goals (go_ret; exact ⟨ret_bool (Bool.eq_iff_iff.2 (by simp [placeI] <;> omega)), rfl⟩)

variable {b bm : Nat} {m : List (Int × Mk)} {n : Int} {w : World}

set_option maxHeartbeats 400000 in
theorem made_any (h : MarksAt w b bm m n) : Calls Try.prog 34 #[.pointer (some ⟨b, 0, none⟩)] w fun e w' => e = .returned (.bool true) ∧ w = w' := by
  have c0 := h.c0
  have hn := neqMap w
  go_enter Try.func34, Try.ntmps34
  go_wp2
  go_ret
  exact ⟨rfl, rfl⟩

set_option maxHeartbeats 400000 in
theorem new_any (w : World) : Calls Try.prog 13 #[] w fun e w' => e = .returned (.pointer (some ⟨w.heap.size + 1, 0, none⟩)) ∧ MarksAt w' (w.heap.size + 1) w.heap.size [] 0 ∧ Below w.heap.size w w' ∧ w'.heap.size = w.heap.size + 2 := by
  have hmm := @run_makeMap Try.prog
  go_enter Try.func13, Try.ntmps13
  go_wp2
  go_ret
  refine ⟨rfl, ⟨?_, ?_, ?_, ?_, by simp, by simp⟩, (below1 w _).alloc (by simp) _, by simp⟩
  · have := MapKept.heap_alloc (w.alloc (.map #[] 0)) (.cells #[.map (some w.heap.size), .int .i64 0] 62)
    simp only [World.size_alloc] at this
    simp only [World.cell?, this.1]; rfl
  · have := MapKept.heap_alloc (w.alloc (.map #[] 0)) (.cells #[.map (some w.heap.size), .int .i64 0] 62)
    simp only [World.size_alloc] at this
    simp only [World.cell?, this.1]; rfl
  · have := MapKept.heap_alloc (w.alloc (.map #[] 0)) (.cells #[.map (some w.heap.size), .int .i64 0] 62)
    simp only [World.size_alloc] at this
    simp only [World.frozen?, this.1]; rfl
  · exact (IM.made w encM).below ((Below.refl (w.heap.size + 1) _).alloc (by simp) _) (by omega)

set_option maxHeartbeats 400000 in
theorem known_yes (h : MarksAt w b bm m n) {id : Int} {x : Mk} (hx : lookM m id = some x) : Calls Try.prog 39 #[.pointer (some ⟨b, 0, none⟩), .int .i64 id] w fun e w' => e = .returned (.int .i64 0) ∧ Below w.heap.size w w' := by
  have c0 := h.c0
  have hl := h.im.look_some mapT keyT hx true
  simp only [if_true] at hl
  have hx' := Lib.hid hx
  clear hx
  go_enter Try.func39, Try.ntmps39
  go_wp2_with (go_at_call 34; refine (made_any h).mono ?_; rintro e w' ⟨rfl, rfl⟩)
  go_ret
  exact ⟨rfl, below1 w _⟩

set_option maxHeartbeats 400000 in
theorem known_no (h : MarksAt w b bm m n) {id : Int} (hx : lookM m id = none) : Calls Try.prog 39 #[.pointer (some ⟨b, 0, none⟩), .int .i64 id] w fun e w' => e = .returned (.int .i64 8) ∧ Below w.heap.size w w' := by
  have c0 := h.c0
  have hl := h.im.look_none mapT keyT hx true (zeroMk w)
  simp only [if_true] at hl
  have hx' := Lib.hid hx
  clear hx
  go_enter Try.func39, Try.ntmps39
  go_wp2_with (go_at_call 34; refine (made_any h).mono ?_; rintro e w' ⟨rfl, rfl⟩)
  go_ret
  exact ⟨rfl, below1 w _⟩

set_option maxHeartbeats 400000 in
theorem at_yes (h : MarksAt w b bm m n) {id : Int} {x : Mk} (hx : lookM m id = some x) : Calls Try.prog 17 #[.pointer (some ⟨b, 0, none⟩), .int .i64 id] w fun e w' => e = .returned (.tuple #[.int .i64 x.1, .bool true]) ∧ Below w.heap.size w w' := by
  go_enter Try.func17, Try.ntmps17
  go_wp2_with fail
  refine (known_yes h hx).mono ?_
  rintro e w1 ⟨rfl, hb1⟩
  have h1 := h.up hb1
  have c0 := h1.c0
  have hl := h1.im.look_some mapT keyT hx false
  simp only [Bool.false_eq_true, if_false] at hl
  have hx' := Lib.hid hx
  clear hx
  have fl0 := fieldMk0 x
  have fl1 := fieldMk1 x
  go_wp2
  go_ret2
  exact ⟨rfl, hb1⟩

set_option maxHeartbeats 400000 in
theorem at_no (h : MarksAt w b bm m n) {id : Int} (hx : lookM m id = none) : Calls Try.prog 17 #[.pointer (some ⟨b, 0, none⟩), .int .i64 id] w fun e w' => e = .returned (.tuple #[.int .i64 0, .bool false]) ∧ Below w.heap.size w w' := by
  go_enter Try.func17, Try.ntmps17
  go_wp2_with fail
  refine (known_no h hx).mono ?_
  rintro e w1 ⟨rfl, hb1⟩
  go_wp2
  go_ret2
  exact ⟨rfl, hb1⟩

set_option maxHeartbeats 400000 in
theorem advance_yes (h : MarksAt w b bm m n) {id : Int} {x : Mk} (hx : lookM m id = some x) : Calls Try.prog 28 #[.pointer (some ⟨b, 0, none⟩), .int .i64 id] w fun e w' => e = .returned (.tuple #[.bool x.2, .bool true]) ∧ Below w.heap.size w w' := by
  go_enter Try.func28, Try.ntmps28
  go_wp2_with fail
  refine (known_yes h hx).mono ?_
  rintro e w1 ⟨rfl, hb1⟩
  have h1 := h.up hb1
  have c0 := h1.c0
  have hl := h1.im.look_some mapT keyT hx false
  simp only [Bool.false_eq_true, if_false] at hl
  have hx' := Lib.hid hx
  clear hx
  have fl0 := fieldMk0 x
  have fl1 := fieldMk1 x
  go_wp2
  go_ret2
  exact ⟨rfl, hb1⟩

set_option maxHeartbeats 400000 in
theorem advance_no (h : MarksAt w b bm m n) {id : Int} (hx : lookM m id = none) : Calls Try.prog 28 #[.pointer (some ⟨b, 0, none⟩), .int .i64 id] w fun e w' => e = .returned (.tuple #[.bool false, .bool false]) ∧ Below w.heap.size w w' := by
  go_enter Try.func28, Try.ntmps28
  go_wp2_with fail
  refine (known_no h hx).mono ?_
  rintro e w1 ⟨rfl, hb1⟩
  go_wp2
  go_ret2
  exact ⟨rfl, hb1⟩

set_option maxHeartbeats 400000 in
theorem many_any (h : MarksAt w b bm m n) : Calls Try.prog 19 #[.pointer (some ⟨b, 0, none⟩)] w fun e w' => e = .returned (.int .i64 m.length) ∧ w = w' := by
  have c0 := h.c0
  have hl := fun ty => h.im.size (P := Try.prog) mapT ty
  go_enter Try.func19, Try.ntmps19
  go_wp2_with (go_at_call 34; refine (made_any h).mono ?_; rintro e w' ⟨rfl, rfl⟩)
  go_ret
  exact ⟨rfl, rfl⟩

/-- The blocks of the set. -/
abbrev Own2 (b bm : Nat) : Nat → Prop := fun k => k = b ∨ k = bm

set_option maxHeartbeats 400000 in
theorem drop_yes (h : MarksAt w b bm m n) {id : Int} {x : Mk} (hx : lookM m id = some x) : Calls Try.prog 18 #[.pointer (some ⟨b, 0, none⟩), .int .i64 id] w fun e w' => e = .returned (.int .i64 0) ∧ MarksAt w' b bm (delM m id) n ∧ Only (Own2 b bm) w w' := by
  go_enter Try.func18, Try.ntmps18
  go_wp2_with fail
  refine (known_yes h hx).mono ?_
  rintro e w1 ⟨rfl, hb1⟩
  have h1 := h.up hb1
  have c0 := h1.c0
  obtain ⟨w2, hrun, him, hgr, hsz⟩ := h1.im.drop mapT keyT id 0
  have hd : ∀ ty, (Builtin.delete_ #[60, 3] ty #[.map (some bm), .int .i64 id]).run Try.prog w1 = .ok (.tuple #[]) w2 := fun _ => hrun
  have hx' := Lib.hid hx
  clear hx hrun
  go_wp2
  go_ret
  have hne := h1.ne
  have hbk : w2.heap[b]? = w1.heap[b]? := hgr.block b h1.lt (fun e => hne (by cases e; rfl))
  refine ⟨rfl, ⟨(World.cell?_of_block (w := w1) (a := ⟨b, 0, none⟩) hbk).trans h1.c0, (World.cell?_of_block (w := w1) (a := ⟨b, 1, none⟩) hbk).trans h1.c1, (World.frozen?_of_block (w := w1) (a := ⟨b, 1, none⟩) hbk).trans h1.f1, him, fun p hp => h.ids p (List.mem_filter.1 hp).1, fun p hp => h.ats p (List.mem_filter.1 hp).1⟩, (Only.of_below hb1).trans (Only.of_grown hgr (.inr rfl))⟩

set_option maxHeartbeats 400000 in
theorem drop_no (h : MarksAt w b bm m n) {id : Int} (hx : lookM m id = none) : Calls Try.prog 18 #[.pointer (some ⟨b, 0, none⟩), .int .i64 id] w fun e w' => e = .returned (.int .i64 8) ∧ Below w.heap.size w w' := by
  go_enter Try.func18, Try.ntmps18
  go_wp2_with fail
  refine (known_no h hx).mono ?_
  rintro e w1 ⟨rfl, hb1⟩
  go_wp2
  go_ret
  exact ⟨rfl, hb1⟩
end Go.Proofs.Ytlnpjdihdemgmaa
