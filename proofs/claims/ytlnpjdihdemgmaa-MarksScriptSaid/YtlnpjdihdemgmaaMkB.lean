/- Package marks: Add, Move, Set. -/
import Derived.Test.YtlnpjdihdemgmaaMkA
namespace Go.Proofs.Ytlnpjdihdemgmaa
open Go.RowKit
set_option linter.unusedVariables false
variable {b bm : Nat} {m : List (Int × Mk)} {n : Int} {w : World}

theorem lookM_new {α : Type} {m : List (Int × α)} {n : Int} (h : ∀ p ∈ m, 0 ≤ p.1 ∧ p.1 < n) : lookM m n = none := lookM_none.2 (fun p hp e => by have := h p hp; omega)
theorem putM_new {α : Type} {m : List (Int × α)} {n : Int} (h : lookM m n = none) (v : α) : putM m n v = m ++ [(n, v)] := by unfold putM; rw [h]; rfl

set_option maxHeartbeats 400000 in
theorem add_range (h : MarksAt w b bm m n) (a : Int) (adv : Bool) (hp : placeI a = false) : Calls Try.prog 14 #[.pointer (some ⟨b, 0, none⟩), .int .i64 a, .bool adv] w fun e w' => e = .returned (.tuple #[.int .i64 0, .int .i64 3]) ∧ w = w' := by
  go_enter Try.func14, Try.ntmps14
  go_wp2_with (first | (go_at_call 34; refine (made_any h).mono ?_; rintro e w' ⟨rfl, rfl⟩) | (go_at_call 35; refine (place_any _ _).mono ?_; rintro e w' ⟨rfl, rfl⟩))
  go_ret2
  exact ⟨rfl, rfl⟩

set_option maxHeartbeats 400000 in
theorem add_full (h : MarksAt w b bm m n) (a : Int) (adv : Bool) (hp : placeI a = true) (hl : 4096 ≤ m.length) : Calls Try.prog 14 #[.pointer (some ⟨b, 0, none⟩), .int .i64 a, .bool adv] w fun e w' => e = .returned (.tuple #[.int .i64 0, .int .i64 7]) ∧ w = w' := by
  have c0 := h.c0
  have hs := fun ty => h.im.size (P := Try.prog) mapT ty
  have hl' : (4096 : Int) ≤ (m.length : Int) := by omega
  clear hl
  go_enter Try.func14, Try.ntmps14
  go_wp2_with (first | (go_at_call 34; refine (made_any h).mono ?_; rintro e w' ⟨rfl, rfl⟩) | (go_at_call 35; refine (place_any _ _).mono ?_; rintro e w' ⟨rfl, rfl⟩))
  go_ret2
  exact ⟨rfl, rfl⟩

set_option maxRecDepth 100000 in
set_option maxHeartbeats 1000000 in
theorem add_ok (h : MarksAt w b bm m n) (a : Int) (adv : Bool) (hp : placeI a = true) (hl : m.length < 4096) (hn0 : 0 ≤ n) (hn1 : n ≤ 1000000000) : Calls Try.prog 14 #[.pointer (some ⟨b, 0, none⟩), .int .i64 a, .bool adv] w fun e w' =>
    e = .returned (.tuple #[.int .i64 n, .int .i64 0]) ∧ MarksAt w' b bm (m ++ [(n, (a, adv))]) (n + 1) ∧ Only (Own2 b bm) w w' := by
  have c0 := h.c0
  have c1 := h.c1
  have hs := fun ty => h.im.size (P := Try.prog) mapT ty
  have hl' : (m.length : Int) < (4096 : Int) := by omega
  have hnone := lookM_new h.ids
  have HN := Lib.hid hnone
  clear hl hnone
  go_enter Try.func14, Try.ntmps14
  go_wp2_with (first | (go_at_call 34; refine (made_any h).mono ?_; rintro e w' ⟨rfl, rfl⟩) | (go_at_call 35; refine (place_any _ _).mono ?_; rintro e w' ⟨rfl, rfl⟩))
  have C0 : ∀ x : UpW w.heap.size w, x.w.cell? ⟨b, 0, none⟩ = some (.map (some bm)) := fun x => (x.up.cell (p := ⟨b, 0, none⟩) h.lt).trans h.c0
  have C1 : ∀ x : UpW w.heap.size w, x.w.cell? ⟨b, 1, none⟩ = some (.int .i64 n) := fun x => (x.up.cell (p := ⟨b, 1, none⟩) h.lt).trans h.c1
  clear c0 c1 hs
  refine wp_region_up_tail w.heap.size 11 (by kernel_rfl) (by kernel_rfl) ?_
  simp only [List.take_succ_cons, List.take_zero, List.drop_succ_cons, List.drop_zero]
  repeat (go_big_quiet_step (fail))
  refine wpQuiet_nil ?_
  rintro ⟨w1, hb1⟩
  dsimp only
  clear C0 C1
  have h1 := h.up hb1
  obtain ⟨w2, hrun, him, hgr, hsz⟩ := h1.im.store mapT keyT n (a, adv)
  have hne := h1.ne
  have hbk : w2.heap[b]? = w1.heap[b]? := hgr.block b h1.lt (fun e => hne (by cases e; rfl))
  have d0 := (World.cell?_of_block (w := w1) (a := ⟨b, 0, none⟩) hbk).trans h1.c0
  have d1 := (World.cell?_of_block (w := w1) (a := ⟨b, 1, none⟩) hbk).trans h1.c1
  have d2 := (World.frozen?_of_block (w := w1) (a := ⟨b, 1, none⟩) hbk).trans h1.f1
  rw [putM_new HN.out] at him
  go_wp2
  go_ret2
  refine ⟨ret_two (by omega), ⟨?_, ?_, ?_, ?_, ?_, ?_⟩, ((Only.of_below hb1).trans (Only.of_grown hgr (.inr rfl))).setCell (p := ⟨b, 1, none⟩) (.inl rfl) _⟩
  · rw [World.cell?_setCell_other _ _ _ _ (by simp)]; exact d0
  · exact World.cell?_setCell_same' _ _ _ (by rw [d1]; rfl)
  · rw [World.frozen?_setCell]; exact d2
  · exact him.kept (Below.heap_setCell _ _ _ _ (fun e => hne e.symm))
  · intro p hp
    rcases List.mem_append.1 hp with hp | hp
    · have := h.ids p hp; omega
    · simp at hp; subst hp; simp; omega
  · intro p hp
    rcases List.mem_append.1 hp with hp | hp
    · exact h.ats p hp
    · simp at hp; subst hp; exact placeI_true ‹_›

/-- A mark's entry is set anew. -/
theorem MarksAt.put {w w1 : World} (h : MarksAt w b bm m n) (hgr : w.grownBy w1 (some bm)) {id : Int} {x y : Mk} (hx : lookM m id = some x) (him : IM w1 bm encM (putM m id y)) (hy : 1 ≤ y.1 ∧ y.1 ≤ 1099511627776) : MarksAt w1 b bm (putM m id y) n := by
  have hne := h.ne
  have hbk : w1.heap[b]? = w.heap[b]? := hgr.block b h.lt (fun e => hne (by cases e; rfl))
  have hk : (putM m id y).map (·.1) = m.map (·.1) := putM_keys_old (by rw [hx]; rfl)
  refine ⟨(World.cell?_of_block (w := w) (a := ⟨b, 0, none⟩) hbk).trans h.c0, (World.cell?_of_block (w := w) (a := ⟨b, 1, none⟩) hbk).trans h.c1, (World.frozen?_of_block (w := w) (a := ⟨b, 1, none⟩) hbk).trans h.f1, him, ?_, ?_⟩
  · intro p hp
    have : p.1 ∈ m.map (·.1) := hk ▸ List.mem_map.2 ⟨p, hp, rfl⟩
    obtain ⟨q, hq, e⟩ := List.mem_map.1 this
    rw [← e]; exact h.ids q hq
  · intro p hp
    unfold putM at hp
    rw [if_pos (by rw [hx]; rfl)] at hp
    obtain ⟨q, hq, rfl⟩ := List.mem_map.1 hp
    split
    · exact hy
    · exact h.ats q hq

set_option maxHeartbeats 400000 in
theorem move_no (h : MarksAt w b bm m n) {id : Int} (a : Int) (hx : lookM m id = none) : Calls Try.prog 20 #[.pointer (some ⟨b, 0, none⟩), .int .i64 id, .int .i64 a] w fun e w' => e = .returned (.int .i64 8) ∧ Below w.heap.size w w' := by
  go_enter Try.func20, Try.ntmps20
  go_wp2_with fail
  refine (known_no h hx).mono ?_
  rintro e w1 ⟨rfl, hb1⟩
  go_wp2
  go_ret
  exact ⟨rfl, hb1⟩
set_option maxHeartbeats 400000 in
theorem move_range (h : MarksAt w b bm m n) {id : Int} {x : Mk} (a : Int) (hx : lookM m id = some x) (hp : placeI a = false) : Calls Try.prog 20 #[.pointer (some ⟨b, 0, none⟩), .int .i64 id, .int .i64 a] w fun e w' => e = .returned (.int .i64 3) ∧ Below w.heap.size w w' := by
  go_enter Try.func20, Try.ntmps20
  go_wp2_with fail
  refine (known_yes h hx).mono ?_
  rintro e w1 ⟨rfl, hb1⟩
  have HX := Lib.hid hx
  clear hx
  go_wp2_with (go_at_call 35; refine (place_any _ _).mono ?_; rintro e w' ⟨rfl, rfl⟩)
  go_ret
  exact ⟨rfl, hb1⟩
set_option maxRecDepth 100000 in
set_option maxHeartbeats 1000000 in
theorem move_ok (h : MarksAt w b bm m n) {id : Int} {x : Mk} (a : Int) (hx : lookM m id = some x) (hp : placeI a = true) : Calls Try.prog 20 #[.pointer (some ⟨b, 0, none⟩), .int .i64 id, .int .i64 a] w fun e w' => e = .returned (.int .i64 0) ∧ MarksAt w' b bm (putM m id (a, x.2)) n ∧ Only (Own2 b bm) w w' := by
  go_enter Try.func20, Try.ntmps20
  go_wp2_with fail
  refine (known_yes h hx).mono ?_
  rintro e w1 ⟨rfl, hb1⟩
  have h1 := h.up hb1
  have HX := Lib.hid hx
  clear hx
  go_wp2_with (go_at_call 35; refine (place_any _ _).mono ?_; rintro e w' ⟨rfl, rfl⟩)
  have C0 : ∀ x : UpW w1.heap.size w1, x.w.cell? ⟨b, 0, none⟩ = some (.map (some bm)) := fun x => (x.up.cell (p := ⟨b, 0, none⟩) h1.lt).trans h1.c0
  have C1 : ∀ y : UpW w1.heap.size w1, (Instr.lookup 60 (.map (some bm)) (.int .i64 id) false).run Try.prog y.w = .ok (encM x) y.w := fun y => by
    have := (h1.up y.up).im.look_some mapT keyT HX.out false
    simpa using this
  have fl0 := fieldMk0 x
  have fl1 := fieldMk1 x
  refine wp_region_up_tail w1.heap.size 14 (by kernel_rfl) (by kernel_rfl) ?_
  simp only [List.take_succ_cons, List.take_zero, List.drop_succ_cons, List.drop_zero]
  repeat (go_big_quiet_step (fail))
  refine wpQuiet_nil ?_
  rintro ⟨w2, hb2⟩
  dsimp only
  clear C0 C1 fl0 fl1
  have h2 := h1.up hb2
  obtain ⟨w3, hrun, him, hgr, hsz⟩ := h2.im.store mapT keyT id (a, x.2)
  have h3 := h2.put hgr HX.out him (placeI_true hp)
  go_wp2
  go_ret
  exact ⟨rfl, h3, ((Only.of_below hb1).trans (Only.of_below hb2)).trans (Only.of_grown hgr (.inr rfl))⟩

set_option maxHeartbeats 400000 in
theorem set_no (h : MarksAt w b bm m n) {id : Int} (adv : Bool) (hx : lookM m id = none) : Calls Try.prog 40 #[.pointer (some ⟨b, 0, none⟩), .int .i64 id, .bool adv] w fun e w' => e = .returned (.int .i64 8) ∧ Below w.heap.size w w' := by
  go_enter Try.func40, Try.ntmps40
  go_wp2_with fail
  refine (known_no h hx).mono ?_
  rintro e w1 ⟨rfl, hb1⟩
  go_wp2
  go_ret
  exact ⟨rfl, hb1⟩
set_option maxRecDepth 100000 in
set_option maxHeartbeats 1000000 in
theorem set_ok (h : MarksAt w b bm m n) {id : Int} {x : Mk} (adv : Bool) (hx : lookM m id = some x) : Calls Try.prog 40 #[.pointer (some ⟨b, 0, none⟩), .int .i64 id, .bool adv] w fun e w' => e = .returned (.int .i64 0) ∧ MarksAt w' b bm (putM m id (x.1, adv)) n ∧ Only (Own2 b bm) w w' := by
  go_enter Try.func40, Try.ntmps40
  go_wp2_with fail
  refine (known_yes h hx).mono ?_
  rintro e w1 ⟨rfl, hb1⟩
  have h1 := h.up hb1
  have HX := Lib.hid hx
  clear hx
  go_wp2_with fail
  have C0 : ∀ x : UpW w1.heap.size w1, x.w.cell? ⟨b, 0, none⟩ = some (.map (some bm)) := fun x => (x.up.cell (p := ⟨b, 0, none⟩) h1.lt).trans h1.c0
  have C1 : ∀ y : UpW w1.heap.size w1, (Instr.lookup 60 (.map (some bm)) (.int .i64 id) false).run Try.prog y.w = .ok (encM x) y.w := fun y => by
    have := (h1.up y.up).im.look_some mapT keyT HX.out false
    simpa using this
  have fl0 := fieldMk0 x
  have fl1 := fieldMk1 x
  refine wp_region_up_tail w1.heap.size 14 (by kernel_rfl) (by kernel_rfl) ?_
  simp only [List.take_succ_cons, List.take_zero, List.drop_succ_cons, List.drop_zero]
  repeat (go_big_quiet_step (fail))
  refine wpQuiet_nil ?_
  rintro ⟨w2, hb2⟩
  dsimp only
  clear C0 C1 fl0 fl1
  have h2 := h1.up hb2
  obtain ⟨w3, hrun, him, hgr, hsz⟩ := h2.im.store mapT keyT id (x.1, adv)
  have h3 := h2.put hgr HX.out him (h.ats _ (lookM_mem HX.out))
  go_wp2
  go_ret
  exact ⟨rfl, h3, ((Only.of_below hb1).trans (Only.of_below hb2)).trans (Only.of_grown hgr (.inr rfl))⟩
end Go.Proofs.Ytlnpjdihdemgmaa
