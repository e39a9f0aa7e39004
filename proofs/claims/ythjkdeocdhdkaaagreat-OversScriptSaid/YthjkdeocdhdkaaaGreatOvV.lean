/- Overlays: Deleted, its closure. -/
import Derived.Test.YthjkdeocdhdkaaaGreatOvX
import Derived.Test.YthjkdeocdhdkaaaGreatMap
import Derived.Laws.StructEq
namespace Go.Proofs.YthjkdeocdhdkaaaGreat
open Go.RowKit
set_option linter.unusedVariables false
set_option linter.unusedSimpArgs false
theorem mapBT : Tryz.prog.underlying 92 = some (.map 3 4) := Tryz.underlying92
theorem keyT : Tryz.prog.underlying 3 = some (.int .i64) := Tryz.underlying3
section
variable {w w' : World} {x : OverE} {L L' M : List OverE} {b : Nat} {pr ev nx : Int} {v v' : Value} {A : Option Addr} {m : List (Int × Bool)}
theorem neqW (k n : Int) (w : World) : (binOp .neq 29 (.agg #[.int .i64 k, .int .i64 n]) (.agg #[.int .i64 1, .int .i64 0])).run Tryz.prog w = .ok (.bool (!(k == 1 && n == 0))) w := by
  by_cases h1 : k = 1 <;> by_cases h2 : n = 0 <;> simp [go_sem, h1, h2]
/-- Does an overlay go that was not empty and is now? -/
def goesB (was : Bool) (ev : Int) (x : OverD) : Bool := !was && (x.f == x.t && match valP x.ps ev with | some (k, n) => !(k == 1 && n == 0) | none => false)
abbrev encB (u : Bool) : Value := .bool u
structure DelSt (w : World) (b bm qo qm qg B : Nat) (ev : Int) (m : List (Int × Bool)) (gv : Value) (ids : List Int) : Prop where
  co : w.cell? ⟨qo, 0, none⟩ = some (.pointer (some ⟨b, 0, none⟩))
  cm : w.cell? ⟨qm, 0, none⟩ = some (.map (some bm))
  cg : w.cell? ⟨qg, 0, none⟩ = some gv
  fg : w.frozen? ⟨qg, 0, none⟩ = false
  ce : w.cell? ⟨b, 1, none⟩ = some (.int .i64 ev)
  im : IM w bm encB m
  own : ROwn encI 3 1 B w gv ids
  gB : qg < B
  lo : qo < qg ∧ qm < qg ∧ bm < qg ∧ b < qg
  hB : B ≤ w.heap.size
theorem DelSt.kept {bm qo qm qg B : Nat} {gv : Value} {ids : List Int} (h : DelSt w b bm qo qm qg B ev m gv ids) (hz : w.heap.size ≤ w'.heap.size) (hk : ∀ k, k < w.heap.size → k ≤ qg ∨ gv.ownBlock = some k → (k = qo ∨ k = qm ∨ k = qg ∨ k = bm ∨ k = b ∨ gv.ownBlock = some k) → w'.heap[k]? = w.heap[k]?) : DelSt w' b bm qo qm qg B ev m gv ids := by
  obtain ⟨l1, l2, l3, l4⟩ := h.lo
  have hg := h.gB
  have hB := h.hB
  have a1 := hk qo (by omega) (.inl (by omega)) (by simp)
  have a2 := hk qm (by omega) (.inl (by omega)) (by simp)
  have a3 := hk qg (by omega) (.inl (by omega)) (by simp)
  have a4 := hk bm (by omega) (.inl (by omega)) (by simp)
  have a5 := hk b (by omega) (.inl (by omega)) (by simp)
  exact ⟨(World.cell?_of_block (w := w) (a := ⟨qo, 0, none⟩) a1).trans h.co, (World.cell?_of_block (w := w) (a := ⟨qm, 0, none⟩) a2).trans h.cm, (World.cell?_of_block (w := w) (a := ⟨qg, 0, none⟩) a3).trans h.cg, (World.frozen?_of_block (w := w) (a := ⟨qg, 0, none⟩) a3).trans h.fg, (World.cell?_of_block (w := w) (a := ⟨b, 1, none⟩) a5).trans h.ce, h.im.kept a4, h.own.kept fun g hg' => hk g (h.own.lt hg') (.inr hg') (.inr (.inr (.inr (.inr (.inr hg'))))), hg, h.lo, Nat.le_trans hB hz⟩
theorem DelSt.up {bm qo qm qg B : Nat} {gv : Value} {ids : List Int} (h : DelSt w b bm qo qm qg B ev m gv ids) (hb : Below w.heap.size w w') : DelSt w' b bm qo qm qg B ev m gv ids := h.kept hb.size fun k hk _ _ => hb.block k hk
def DelC (w : World) (b bm qo qm qg B : Nat) (ev : Int) (m : List (Int × Bool)) (gv : Value) (ids : List Int) (r : Bool) (ids' : List Int) (e : Ending) (w' : World) : Prop :=
  e = .returned (.bool r) ∧ ∃ gv', DelSt w' b bm qo qm qg B ev m gv' ids' ∧ Only (fun k => k = qg ∨ gv.ownBlock = some k) w w'
theorem look_at {W W1 : World} {bm : Nat} {id : Int} {was : Bool} (h : IM W bm encB m) (hw : lookM m id = some was) (he : W1.heap[bm]? = W.heap[bm]?) : (Instr.lookup 92 (.map (some bm)) (.int .i64 id) false).run Tryz.prog W1 = .ok (.bool was) W1 := by
  have := (h.kept he).look_some (P := Tryz.prog) mapBT keyT hw false
  simpa using this
set_option maxRecDepth 100000 in
set_option maxHeartbeats 1000000 in
theorem delC_a {bm qo qm qg B : Nat} {gv : Value} {ids : List Int} (h : DelSt w b bm qo qm qg B ev m gv ids) (hx : OverIn w x) (hs : SortedP x.ps) (hl : x.ps.length ≤ 1000000) (hval : valP x.ps ev = none) (hw : lookM m x.id = some true)  :
    Calls Tryz.prog 62 #[.pointer (some ⟨x.g, 0, none⟩), .pointer (some ⟨qo, 0, none⟩), .pointer (some ⟨qm, 0, none⟩), .pointer (some ⟨qg, 0, none⟩)] w (DelC w b bm qo qm qg B ev m gv ids false ids) := by
  have co := h.co
  have ce := h.ce
  have HV := Lib.hid (value_any hx hs ev hl)
  rw [hval] at HV
  have H := Lib.hid h
  have HX := Lib.hid hx
  have HW := Lib.hid hw
  clear h hx hw hs hl hval
  simp only [wordV] at HV
  go_enter Tryz.func62, Tryz.ntmps62
  go_wp2_with fail
  refine HV.out.mono ?_
  rintro e w1 ⟨rfl, hb⟩
  have HB := Lib.hid hb
  clear hb co ce
  go_wp2_with fail
  have hbW := up2 HB.out (below1 w1 (.cells #[.int .i64 0, .int .i64 0] 29))
  have HBW := Lib.hid hbW
  have hst := H.out.up hbW
  have hx1 := HX.out.up hbW
  have al := (MapKept.heap_alloc w1 (.cells #[.int .i64 0, .int .i64 0] 29)).1
  have az : (w1.alloc (.cells #[.int .i64 0, .int .i64 0] 29)).heap.size = w1.heap.size + 1 := by simp
  generalize w1.alloc (.cells #[.int .i64 0, .int .i64 0] 29) = W at *
  have CM : ∀ y : UpW W.heap.size W, y.w.cell? ⟨qm, 0, none⟩ = some (.map (some bm)) := fun y => (hst.up y.up).cm
  have LK : ∀ y : UpW W.heap.size W, (Instr.lookup 92 (.map (some bm)) (.int .i64 x.id) false).run Tryz.prog y.w = .ok (.bool true) y.w := fun y => look_at hst.im HW.out (y.up.block bm hst.im.lt)
  have X0 : ∀ y : UpW W.heap.size W, y.w.cell? ⟨x.g, 0, none⟩ = some (.int .i64 x.id) := fun y => (hx1.up y.up).cell 0 _ rfl
  have X1 : ∀ y : UpW W.heap.size W, y.w.cell? ⟨x.g, 1, none⟩ = some (.int .i64 x.f) := fun y => (hx1.up y.up).cell 1 _ rfl
  have X2 : ∀ y : UpW W.heap.size W, y.w.cell? ⟨x.g, 2, none⟩ = some (.int .i64 x.t) := fun y => (hx1.up y.up).cell 2 _ rfl
  have T0 : ∀ y : UpW W.heap.size W, y.w.cell? ⟨w1.heap.size, 0, none⟩ = some (.int .i64 0) := fun y => (y.up.cell (p := ⟨w1.heap.size, 0, none⟩) (by show w1.heap.size < W.heap.size; omega)).trans (by simp only [World.cell?, al]; rfl)
  have T1 : ∀ y : UpW W.heap.size W, y.w.cell? ⟨w1.heap.size, 1, none⟩ = some (.int .i64 0) := fun y => (y.up.cell (p := ⟨w1.heap.size, 1, none⟩) (by show w1.heap.size < W.heap.size; omega)).trans (by simp only [World.cell?, al]; rfl)
  have NW := neqW 0 0
  have HST := Lib.hid hst
  have HX1 := Lib.hid hx1
  clear hst hx1 al az hbW
  refine wp_region_up W.heap.size (by kernel_rfl) (by kernel_rfl) ?_
  repeat (go_big_quiet_step (fail))
  refine wpQuiet_nil ?_
  rintro ⟨w2, hb2⟩
  dsimp only
  clear CM LK X0 X1 X2 T0 T1 NW
  go_wp2_with fail
  go_ret
  exact ⟨rfl, _, (HST.out.up hb2), (Only.of_below HBW.out).trans (Only.of_below hb2)⟩
set_option maxRecDepth 100000 in
set_option maxHeartbeats 1000000 in
theorem delC_b {bm qo qm qg B : Nat} {gv : Value} {ids : List Int} (h : DelSt w b bm qo qm qg B ev m gv ids) (hx : OverIn w x) (hs : SortedP x.ps) (hl : x.ps.length ≤ 1000000) (hval : valP x.ps ev = none) (hw : lookM m x.id = some false) (hft : (x.f == x.t) = false) :
    Calls Tryz.prog 62 #[.pointer (some ⟨x.g, 0, none⟩), .pointer (some ⟨qo, 0, none⟩), .pointer (some ⟨qm, 0, none⟩), .pointer (some ⟨qg, 0, none⟩)] w (DelC w b bm qo qm qg B ev m gv ids false ids) := by
  have co := h.co
  have ce := h.ce
  have HV := Lib.hid (value_any hx hs ev hl)
  rw [hval] at HV
  have H := Lib.hid h
  have HX := Lib.hid hx
  have HW := Lib.hid hw
  clear h hx hw hs hl hval
  simp only [wordV] at HV
  go_enter Tryz.func62, Tryz.ntmps62
  go_wp2_with fail
  refine HV.out.mono ?_
  rintro e w1 ⟨rfl, hb⟩
  have HB := Lib.hid hb
  clear hb co ce
  go_wp2_with fail
  have hbW := up2 HB.out (below1 w1 (.cells #[.int .i64 0, .int .i64 0] 29))
  have HBW := Lib.hid hbW
  have hst := H.out.up hbW
  have hx1 := HX.out.up hbW
  have al := (MapKept.heap_alloc w1 (.cells #[.int .i64 0, .int .i64 0] 29)).1
  have az : (w1.alloc (.cells #[.int .i64 0, .int .i64 0] 29)).heap.size = w1.heap.size + 1 := by simp
  generalize w1.alloc (.cells #[.int .i64 0, .int .i64 0] 29) = W at *
  have CM : ∀ y : UpW W.heap.size W, y.w.cell? ⟨qm, 0, none⟩ = some (.map (some bm)) := fun y => (hst.up y.up).cm
  have LK : ∀ y : UpW W.heap.size W, (Instr.lookup 92 (.map (some bm)) (.int .i64 x.id) false).run Tryz.prog y.w = .ok (.bool false) y.w := fun y => look_at hst.im HW.out (y.up.block bm hst.im.lt)
  have X0 : ∀ y : UpW W.heap.size W, y.w.cell? ⟨x.g, 0, none⟩ = some (.int .i64 x.id) := fun y => (hx1.up y.up).cell 0 _ rfl
  have X1 : ∀ y : UpW W.heap.size W, y.w.cell? ⟨x.g, 1, none⟩ = some (.int .i64 x.f) := fun y => (hx1.up y.up).cell 1 _ rfl
  have X2 : ∀ y : UpW W.heap.size W, y.w.cell? ⟨x.g, 2, none⟩ = some (.int .i64 x.t) := fun y => (hx1.up y.up).cell 2 _ rfl
  have T0 : ∀ y : UpW W.heap.size W, y.w.cell? ⟨w1.heap.size, 0, none⟩ = some (.int .i64 0) := fun y => (y.up.cell (p := ⟨w1.heap.size, 0, none⟩) (by show w1.heap.size < W.heap.size; omega)).trans (by simp only [World.cell?, al]; rfl)
  have T1 : ∀ y : UpW W.heap.size W, y.w.cell? ⟨w1.heap.size, 1, none⟩ = some (.int .i64 0) := fun y => (y.up.cell (p := ⟨w1.heap.size, 1, none⟩) (by show w1.heap.size < W.heap.size; omega)).trans (by simp only [World.cell?, al]; rfl)
  have NW := neqW 0 0
  have HST := Lib.hid hst
  have HX1 := Lib.hid hx1
  clear hst hx1 al az hbW
  refine wp_region_up W.heap.size (by kernel_rfl) (by kernel_rfl) ?_
  repeat (go_big_quiet_step (fail))
  refine wpQuiet_nil ?_
  rintro ⟨w2, hb2⟩
  dsimp only
  clear CM LK X0 X1 X2 T0 T1 NW
  go_wp2_with fail
  go_ret
  exact ⟨rfl, _, (HST.out.up hb2), (Only.of_below HBW.out).trans (Only.of_below hb2)⟩
set_option maxRecDepth 100000 in
set_option maxHeartbeats 1000000 in
theorem delC_c {bm qo qm qg B : Nat} {gv : Value} {ids : List Int} (h : DelSt w b bm qo qm qg B ev m gv ids) (hx : OverIn w x) (hs : SortedP x.ps) (hl : x.ps.length ≤ 1000000) (hval : valP x.ps ev = none) (hw : lookM m x.id = some false) (hft : (x.f == x.t) = true) :
    Calls Tryz.prog 62 #[.pointer (some ⟨x.g, 0, none⟩), .pointer (some ⟨qo, 0, none⟩), .pointer (some ⟨qm, 0, none⟩), .pointer (some ⟨qg, 0, none⟩)] w (DelC w b bm qo qm qg B ev m gv ids false ids) := by
  have co := h.co
  have ce := h.ce
  have HV := Lib.hid (value_any hx hs ev hl)
  rw [hval] at HV
  have H := Lib.hid h
  have HX := Lib.hid hx
  have HW := Lib.hid hw
  clear h hx hw hs hl hval
  simp only [wordV] at HV
  go_enter Tryz.func62, Tryz.ntmps62
  go_wp2_with fail
  refine HV.out.mono ?_
  rintro e w1 ⟨rfl, hb⟩
  have HB := Lib.hid hb
  clear hb co ce
  go_wp2_with fail
  have hbW := up2 HB.out (below1 w1 (.cells #[.int .i64 0, .int .i64 0] 29))
  have HBW := Lib.hid hbW
  have hst := H.out.up hbW
  have hx1 := HX.out.up hbW
  have al := (MapKept.heap_alloc w1 (.cells #[.int .i64 0, .int .i64 0] 29)).1
  have az : (w1.alloc (.cells #[.int .i64 0, .int .i64 0] 29)).heap.size = w1.heap.size + 1 := by simp
  generalize w1.alloc (.cells #[.int .i64 0, .int .i64 0] 29) = W at *
  have CM : ∀ y : UpW W.heap.size W, y.w.cell? ⟨qm, 0, none⟩ = some (.map (some bm)) := fun y => (hst.up y.up).cm
  have LK : ∀ y : UpW W.heap.size W, (Instr.lookup 92 (.map (some bm)) (.int .i64 x.id) false).run Tryz.prog y.w = .ok (.bool false) y.w := fun y => look_at hst.im HW.out (y.up.block bm hst.im.lt)
  have X0 : ∀ y : UpW W.heap.size W, y.w.cell? ⟨x.g, 0, none⟩ = some (.int .i64 x.id) := fun y => (hx1.up y.up).cell 0 _ rfl
  have X1 : ∀ y : UpW W.heap.size W, y.w.cell? ⟨x.g, 1, none⟩ = some (.int .i64 x.f) := fun y => (hx1.up y.up).cell 1 _ rfl
  have X2 : ∀ y : UpW W.heap.size W, y.w.cell? ⟨x.g, 2, none⟩ = some (.int .i64 x.t) := fun y => (hx1.up y.up).cell 2 _ rfl
  have T0 : ∀ y : UpW W.heap.size W, y.w.cell? ⟨w1.heap.size, 0, none⟩ = some (.int .i64 0) := fun y => (y.up.cell (p := ⟨w1.heap.size, 0, none⟩) (by show w1.heap.size < W.heap.size; omega)).trans (by simp only [World.cell?, al]; rfl)
  have T1 : ∀ y : UpW W.heap.size W, y.w.cell? ⟨w1.heap.size, 1, none⟩ = some (.int .i64 0) := fun y => (y.up.cell (p := ⟨w1.heap.size, 1, none⟩) (by show w1.heap.size < W.heap.size; omega)).trans (by simp only [World.cell?, al]; rfl)
  have NW := neqW 0 0
  have HST := Lib.hid hst
  have HX1 := Lib.hid hx1
  clear hst hx1 al az hbW
  refine wp_region_up W.heap.size (by kernel_rfl) (by kernel_rfl) ?_
  repeat (go_big_quiet_step (fail))
  refine wpQuiet_nil ?_
  rintro ⟨w2, hb2⟩
  dsimp only
  clear CM LK X0 X1 X2 T0 T1 NW
  go_wp2_with fail
  go_ret
  exact ⟨rfl, _, (HST.out.up hb2), (Only.of_below HBW.out).trans (Only.of_below hb2)⟩
set_option maxRecDepth 100000 in
set_option maxHeartbeats 1000000 in
theorem delC_d {bm qo qm qg B : Nat} {gv : Value} {ids : List Int} {k n : Int} (h : DelSt w b bm qo qm qg B ev m gv ids) (hx : OverIn w x) (hs : SortedP x.ps) (hl : x.ps.length ≤ 1000000) (hval : valP x.ps ev = some (k, n)) (hw : lookM m x.id = some true)  :
    Calls Tryz.prog 62 #[.pointer (some ⟨x.g, 0, none⟩), .pointer (some ⟨qo, 0, none⟩), .pointer (some ⟨qm, 0, none⟩), .pointer (some ⟨qg, 0, none⟩)] w (DelC w b bm qo qm qg B ev m gv ids false ids) := by
  have co := h.co
  have ce := h.ce
  have HV := Lib.hid (value_any hx hs ev hl)
  rw [hval] at HV
  have H := Lib.hid h
  have HX := Lib.hid hx
  have HW := Lib.hid hw
  clear h hx hw hs hl hval
  simp only [wordV] at HV
  go_enter Tryz.func62, Tryz.ntmps62
  go_wp2_with fail
  refine HV.out.mono ?_
  rintro e w1 ⟨rfl, hb⟩
  have HB := Lib.hid hb
  clear hb co ce
  go_wp2_with fail
  have hbW := up2 HB.out (below1 w1 (.cells #[.int .i64 k, .int .i64 n] 29))
  have HBW := Lib.hid hbW
  have hst := H.out.up hbW
  have hx1 := HX.out.up hbW
  have al := (MapKept.heap_alloc w1 (.cells #[.int .i64 k, .int .i64 n] 29)).1
  have az : (w1.alloc (.cells #[.int .i64 k, .int .i64 n] 29)).heap.size = w1.heap.size + 1 := by simp
  generalize w1.alloc (.cells #[.int .i64 k, .int .i64 n] 29) = W at *
  have CM : ∀ y : UpW W.heap.size W, y.w.cell? ⟨qm, 0, none⟩ = some (.map (some bm)) := fun y => (hst.up y.up).cm
  have LK : ∀ y : UpW W.heap.size W, (Instr.lookup 92 (.map (some bm)) (.int .i64 x.id) false).run Tryz.prog y.w = .ok (.bool true) y.w := fun y => look_at hst.im HW.out (y.up.block bm hst.im.lt)
  have X0 : ∀ y : UpW W.heap.size W, y.w.cell? ⟨x.g, 0, none⟩ = some (.int .i64 x.id) := fun y => (hx1.up y.up).cell 0 _ rfl
  have X1 : ∀ y : UpW W.heap.size W, y.w.cell? ⟨x.g, 1, none⟩ = some (.int .i64 x.f) := fun y => (hx1.up y.up).cell 1 _ rfl
  have X2 : ∀ y : UpW W.heap.size W, y.w.cell? ⟨x.g, 2, none⟩ = some (.int .i64 x.t) := fun y => (hx1.up y.up).cell 2 _ rfl
  have T0 : ∀ y : UpW W.heap.size W, y.w.cell? ⟨w1.heap.size, 0, none⟩ = some (.int .i64 k) := fun y => (y.up.cell (p := ⟨w1.heap.size, 0, none⟩) (by show w1.heap.size < W.heap.size; omega)).trans (by simp only [World.cell?, al]; rfl)
  have T1 : ∀ y : UpW W.heap.size W, y.w.cell? ⟨w1.heap.size, 1, none⟩ = some (.int .i64 n) := fun y => (y.up.cell (p := ⟨w1.heap.size, 1, none⟩) (by show w1.heap.size < W.heap.size; omega)).trans (by simp only [World.cell?, al]; rfl)
  have NW := neqW k n
  have HST := Lib.hid hst
  have HX1 := Lib.hid hx1
  clear hst hx1 al az hbW
  refine wp_region_up W.heap.size (by kernel_rfl) (by kernel_rfl) ?_
  repeat (go_big_quiet_step (fail))
  refine wpQuiet_nil ?_
  rintro ⟨w2, hb2⟩
  dsimp only
  clear CM LK X0 X1 X2 T0 T1 NW
  go_wp2_with fail
  go_ret
  exact ⟨rfl, _, (HST.out.up hb2), (Only.of_below HBW.out).trans (Only.of_below hb2)⟩
set_option maxRecDepth 100000 in
set_option maxHeartbeats 1000000 in
theorem delC_e {bm qo qm qg B : Nat} {gv : Value} {ids : List Int} {k n : Int} (h : DelSt w b bm qo qm qg B ev m gv ids) (hx : OverIn w x) (hs : SortedP x.ps) (hl : x.ps.length ≤ 1000000) (hval : valP x.ps ev = some (k, n)) (hw : lookM m x.id = some false) (hft : (x.f == x.t) = false) :
    Calls Tryz.prog 62 #[.pointer (some ⟨x.g, 0, none⟩), .pointer (some ⟨qo, 0, none⟩), .pointer (some ⟨qm, 0, none⟩), .pointer (some ⟨qg, 0, none⟩)] w (DelC w b bm qo qm qg B ev m gv ids false ids) := by
  have co := h.co
  have ce := h.ce
  have HV := Lib.hid (value_any hx hs ev hl)
  rw [hval] at HV
  have H := Lib.hid h
  have HX := Lib.hid hx
  have HW := Lib.hid hw
  clear h hx hw hs hl hval
  simp only [wordV] at HV
  go_enter Tryz.func62, Tryz.ntmps62
  go_wp2_with fail
  refine HV.out.mono ?_
  rintro e w1 ⟨rfl, hb⟩
  have HB := Lib.hid hb
  clear hb co ce
  go_wp2_with fail
  have hbW := up2 HB.out (below1 w1 (.cells #[.int .i64 k, .int .i64 n] 29))
  have HBW := Lib.hid hbW
  have hst := H.out.up hbW
  have hx1 := HX.out.up hbW
  have al := (MapKept.heap_alloc w1 (.cells #[.int .i64 k, .int .i64 n] 29)).1
  have az : (w1.alloc (.cells #[.int .i64 k, .int .i64 n] 29)).heap.size = w1.heap.size + 1 := by simp
  generalize w1.alloc (.cells #[.int .i64 k, .int .i64 n] 29) = W at *
  have CM : ∀ y : UpW W.heap.size W, y.w.cell? ⟨qm, 0, none⟩ = some (.map (some bm)) := fun y => (hst.up y.up).cm
  have LK : ∀ y : UpW W.heap.size W, (Instr.lookup 92 (.map (some bm)) (.int .i64 x.id) false).run Tryz.prog y.w = .ok (.bool false) y.w := fun y => look_at hst.im HW.out (y.up.block bm hst.im.lt)
  have X0 : ∀ y : UpW W.heap.size W, y.w.cell? ⟨x.g, 0, none⟩ = some (.int .i64 x.id) := fun y => (hx1.up y.up).cell 0 _ rfl
  have X1 : ∀ y : UpW W.heap.size W, y.w.cell? ⟨x.g, 1, none⟩ = some (.int .i64 x.f) := fun y => (hx1.up y.up).cell 1 _ rfl
  have X2 : ∀ y : UpW W.heap.size W, y.w.cell? ⟨x.g, 2, none⟩ = some (.int .i64 x.t) := fun y => (hx1.up y.up).cell 2 _ rfl
  have T0 : ∀ y : UpW W.heap.size W, y.w.cell? ⟨w1.heap.size, 0, none⟩ = some (.int .i64 k) := fun y => (y.up.cell (p := ⟨w1.heap.size, 0, none⟩) (by show w1.heap.size < W.heap.size; omega)).trans (by simp only [World.cell?, al]; rfl)
  have T1 : ∀ y : UpW W.heap.size W, y.w.cell? ⟨w1.heap.size, 1, none⟩ = some (.int .i64 n) := fun y => (y.up.cell (p := ⟨w1.heap.size, 1, none⟩) (by show w1.heap.size < W.heap.size; omega)).trans (by simp only [World.cell?, al]; rfl)
  have NW := neqW k n
  have HST := Lib.hid hst
  have HX1 := Lib.hid hx1
  clear hst hx1 al az hbW
  refine wp_region_up W.heap.size (by kernel_rfl) (by kernel_rfl) ?_
  repeat (go_big_quiet_step (fail))
  refine wpQuiet_nil ?_
  rintro ⟨w2, hb2⟩
  dsimp only
  clear CM LK X0 X1 X2 T0 T1 NW
  go_wp2_with fail
  go_ret
  exact ⟨rfl, _, (HST.out.up hb2), (Only.of_below HBW.out).trans (Only.of_below hb2)⟩
set_option maxRecDepth 100000 in
set_option maxHeartbeats 1000000 in
theorem delC_f {bm qo qm qg B : Nat} {gv : Value} {ids : List Int} {k n : Int} (h : DelSt w b bm qo qm qg B ev m gv ids) (hx : OverIn w x) (hs : SortedP x.ps) (hl : x.ps.length ≤ 1000000) (hval : valP x.ps ev = some (k, n)) (hw : lookM m x.id = some false) (hft : (x.f == x.t) = true) (hkn : (k == 1 && n == 0) = true) :
    Calls Tryz.prog 62 #[.pointer (some ⟨x.g, 0, none⟩), .pointer (some ⟨qo, 0, none⟩), .pointer (some ⟨qm, 0, none⟩), .pointer (some ⟨qg, 0, none⟩)] w (DelC w b bm qo qm qg B ev m gv ids false ids) := by
  have co := h.co
  have ce := h.ce
  have HV := Lib.hid (value_any hx hs ev hl)
  rw [hval] at HV
  have H := Lib.hid h
  have HX := Lib.hid hx
  have HW := Lib.hid hw
  clear h hx hw hs hl hval
  simp only [wordV] at HV
  go_enter Tryz.func62, Tryz.ntmps62
  go_wp2_with fail
  refine HV.out.mono ?_
  rintro e w1 ⟨rfl, hb⟩
  have HB := Lib.hid hb
  clear hb co ce
  go_wp2_with fail
  have hbW := up2 HB.out (below1 w1 (.cells #[.int .i64 k, .int .i64 n] 29))
  have HBW := Lib.hid hbW
  have hst := H.out.up hbW
  have hx1 := HX.out.up hbW
  have al := (MapKept.heap_alloc w1 (.cells #[.int .i64 k, .int .i64 n] 29)).1
  have az : (w1.alloc (.cells #[.int .i64 k, .int .i64 n] 29)).heap.size = w1.heap.size + 1 := by simp
  generalize w1.alloc (.cells #[.int .i64 k, .int .i64 n] 29) = W at *
  have CM : ∀ y : UpW W.heap.size W, y.w.cell? ⟨qm, 0, none⟩ = some (.map (some bm)) := fun y => (hst.up y.up).cm
  have LK : ∀ y : UpW W.heap.size W, (Instr.lookup 92 (.map (some bm)) (.int .i64 x.id) false).run Tryz.prog y.w = .ok (.bool false) y.w := fun y => look_at hst.im HW.out (y.up.block bm hst.im.lt)
  have X0 : ∀ y : UpW W.heap.size W, y.w.cell? ⟨x.g, 0, none⟩ = some (.int .i64 x.id) := fun y => (hx1.up y.up).cell 0 _ rfl
  have X1 : ∀ y : UpW W.heap.size W, y.w.cell? ⟨x.g, 1, none⟩ = some (.int .i64 x.f) := fun y => (hx1.up y.up).cell 1 _ rfl
  have X2 : ∀ y : UpW W.heap.size W, y.w.cell? ⟨x.g, 2, none⟩ = some (.int .i64 x.t) := fun y => (hx1.up y.up).cell 2 _ rfl
  have T0 : ∀ y : UpW W.heap.size W, y.w.cell? ⟨w1.heap.size, 0, none⟩ = some (.int .i64 k) := fun y => (y.up.cell (p := ⟨w1.heap.size, 0, none⟩) (by show w1.heap.size < W.heap.size; omega)).trans (by simp only [World.cell?, al]; rfl)
  have T1 : ∀ y : UpW W.heap.size W, y.w.cell? ⟨w1.heap.size, 1, none⟩ = some (.int .i64 n) := fun y => (y.up.cell (p := ⟨w1.heap.size, 1, none⟩) (by show w1.heap.size < W.heap.size; omega)).trans (by simp only [World.cell?, al]; rfl)
  have NW := neqW k n
  have HST := Lib.hid hst
  have HX1 := Lib.hid hx1
  clear hst hx1 al az hbW
  refine wp_region_up W.heap.size (by kernel_rfl) (by kernel_rfl) ?_
  repeat (go_big_quiet_step (fail))
  refine wpQuiet_nil ?_
  rintro ⟨w2, hb2⟩
  dsimp only
  clear CM LK X0 X1 X2 T0 T1 NW
  go_wp2_with fail
  go_ret
  exact ⟨rfl, _, (HST.out.up hb2), (Only.of_below HBW.out).trans (Only.of_below hb2)⟩
set_option maxRecDepth 100000 in
set_option maxHeartbeats 1000000 in
theorem delC_g {bm qo qm qg B : Nat} {gv : Value} {ids : List Int} {k n : Int} (h : DelSt w b bm qo qm qg B ev m gv ids) (hx : OverIn w x) (hs : SortedP x.ps) (hl : x.ps.length ≤ 1000000) (hval : valP x.ps ev = some (k, n)) (hw : lookM m x.id = some false) (hft : (x.f == x.t) = true) (hkn : (k == 1 && n == 0) = false) (hxB : x.g < B) (hil : ids.length ≤ 1000000) :
    Calls Tryz.prog 62 #[.pointer (some ⟨x.g, 0, none⟩), .pointer (some ⟨qo, 0, none⟩), .pointer (some ⟨qm, 0, none⟩), .pointer (some ⟨qg, 0, none⟩)] w (DelC w b bm qo qm qg B ev m gv ids true (ids ++ [x.id])) := by
  have co := h.co
  have ce := h.ce
  have HV := Lib.hid (value_any hx hs ev hl)
  rw [hval] at HV
  have H := Lib.hid h
  have HX := Lib.hid hx
  have HW := Lib.hid hw
  clear h hx hw hs hl hval
  simp only [wordV] at HV
  go_enter Tryz.func62, Tryz.ntmps62
  go_wp2_with fail
  refine HV.out.mono ?_
  rintro e w1 ⟨rfl, hb⟩
  have HB := Lib.hid hb
  clear hb co ce
  go_wp2_with fail
  have hbW := up2 HB.out (below1 w1 (.cells #[.int .i64 k, .int .i64 n] 29))
  have HBW := Lib.hid hbW
  have hst := H.out.up hbW
  have hx1 := HX.out.up hbW
  have al := (MapKept.heap_alloc w1 (.cells #[.int .i64 k, .int .i64 n] 29)).1
  have az : (w1.alloc (.cells #[.int .i64 k, .int .i64 n] 29)).heap.size = w1.heap.size + 1 := by simp
  generalize w1.alloc (.cells #[.int .i64 k, .int .i64 n] 29) = W at *
  have CM : ∀ y : UpW W.heap.size W, y.w.cell? ⟨qm, 0, none⟩ = some (.map (some bm)) := fun y => (hst.up y.up).cm
  have LK : ∀ y : UpW W.heap.size W, (Instr.lookup 92 (.map (some bm)) (.int .i64 x.id) false).run Tryz.prog y.w = .ok (.bool false) y.w := fun y => look_at hst.im HW.out (y.up.block bm hst.im.lt)
  have X0 : ∀ y : UpW W.heap.size W, y.w.cell? ⟨x.g, 0, none⟩ = some (.int .i64 x.id) := fun y => (hx1.up y.up).cell 0 _ rfl
  have X1 : ∀ y : UpW W.heap.size W, y.w.cell? ⟨x.g, 1, none⟩ = some (.int .i64 x.f) := fun y => (hx1.up y.up).cell 1 _ rfl
  have X2 : ∀ y : UpW W.heap.size W, y.w.cell? ⟨x.g, 2, none⟩ = some (.int .i64 x.t) := fun y => (hx1.up y.up).cell 2 _ rfl
  have T0 : ∀ y : UpW W.heap.size W, y.w.cell? ⟨w1.heap.size, 0, none⟩ = some (.int .i64 k) := fun y => (y.up.cell (p := ⟨w1.heap.size, 0, none⟩) (by show w1.heap.size < W.heap.size; omega)).trans (by simp only [World.cell?, al]; rfl)
  have T1 : ∀ y : UpW W.heap.size W, y.w.cell? ⟨w1.heap.size, 1, none⟩ = some (.int .i64 n) := fun y => (y.up.cell (p := ⟨w1.heap.size, 1, none⟩) (by show w1.heap.size < W.heap.size; omega)).trans (by simp only [World.cell?, al]; rfl)
  have NW := neqW k n
  have HST := Lib.hid hst
  have HX1 := Lib.hid hx1
  clear hst hx1 al az hbW
  refine wp_region_up W.heap.size (by kernel_rfl) (by kernel_rfl) ?_
  repeat (go_big_quiet_step (fail))
  refine wpQuiet_nil ?_
  rintro ⟨w2, hb2⟩
  dsimp only
  clear CM LK X0 X1 X2 T0 T1 NW
  have hst2 := HST.out.up hb2
  obtain ⟨Ag, cg, rfl, _, _, _⟩ := hst2.own.shape eltI
  have hx2 := HX1.out.up hb2
  have hwz := hb2.size
  have hwz1 := HBW.out.size
  have hB0 := HST.out.hB
  have hgB := HST.out.gB
  obtain ⟨gv', w3, happ, hown3, hbel3, hon3, hv3⟩ := append_elem eltI (hst2.own.kept (w' := w2.drew) fun _ _ => rfl) (w := w2.drew) (by show B ≤ w2.heap.size; omega) x.id (by omega) (by omega)
  have happ' : ∀ ty, (Builtin.append_ #[32, 32] ty #[.slice Ag ids.length cg, .slice (some ⟨w2.heap.size, 0, none⟩) 1 1]).run Tryz.prog (w2.alloc (.cells #[.int .i64 x.id] 3)).drew = .ok gv' w3 := happ
  have hgn : ∀ k, (Value.slice Ag ids.length cg).ownBlock = some k → B ≤ k := fun k hk => HST.out.own.base hk
  have CG : ∀ y : OnW (fun k => (Value.slice Ag ids.length cg).ownBlock = some k) w2, y.w.cell? ⟨qg, 0, none⟩ = some (.slice Ag ids.length cg) := fun y => (World.cell?_of_block (w := w2) (a := ⟨qg, 0, none⟩) (y.on.block qg (by omega) (fun e => by have := hgn _ e; omega))).trans hst2.cg
  have X0 : ∀ y : OnW (fun k => (Value.slice Ag ids.length cg).ownBlock = some k) w2, y.w.cell? ⟨x.g, 0, none⟩ = some (.int .i64 x.id) := fun y => (World.cell?_of_block (w := w2) (a := ⟨x.g, 0, none⟩) (y.on.block x.g (hx2.lt (foot_g x)) (fun e => by have := hgn _ e; have := hxB; omega))).trans (hx2.cell 0 _ rfl)
  have hq3 : w3.heap[qg]? = w2.heap[qg]? := hon3.block qg (by show qg < w2.heap.size; omega) (fun e => by have := hgn _ e; omega)
  have d3 := (World.cell?_of_block (w := w2) (a := ⟨qg, 0, none⟩) hq3).trans hst2.cg
  have z3 := (World.frozen?_of_block (w := w2) (a := ⟨qg, 0, none⟩) hq3).trans hst2.fg
  have hon3' : Only (fun k => (Value.slice Ag ids.length cg).ownBlock = some k) w2 w3 := (Only.refl _ w2).drew.trans hon3
  obtain ⟨l1, l2, l3, l4⟩ := HST.out.lo
  have hfin : DelSt (w3.setCell ⟨qg, 0, none⟩ gv') b bm qo qm qg B ev m gv' (ids ++ [x.id]) := by
    have hk : ∀ k, k < qg → (w3.setCell ⟨qg, 0, none⟩ gv').heap[k]? = w2.heap[k]? := fun k hk => by
      rw [Below.heap_setCell _ _ _ _ (show k ≠ qg by omega)]
      exact hon3'.block k (by omega) (fun e => by have := hgn _ e; omega)
    refine ⟨(World.cell?_of_block (w := w2) (a := ⟨qo, 0, none⟩) (hk qo l1)).trans hst2.co, (World.cell?_of_block (w := w2) (a := ⟨qm, 0, none⟩) (hk qm l2)).trans hst2.cm, World.cell?_setCell_same' _ _ _ (by rw [d3]; rfl), ?_, (World.cell?_of_block (w := w2) (a := ⟨b, 1, none⟩) (hk b l4)).trans hst2.ce, hst2.im.kept (hk bm l3), ?_, hgB, ⟨l1, l2, l3, l4⟩, ?_⟩
    · rw [World.frozen?_setCell]; exact z3
    · exact hown3.kept fun g hg => Below.heap_setCell _ _ _ _ (fun e => by have := hown3.base hg; have e' : g = qg := e; omega)
    · have h1 := hon3'.size
      rw [World.size_setCell]; omega
  have hall : Only (fun k => k = qg ∨ (Value.slice Ag ids.length cg).ownBlock = some k) w (w3.setCell ⟨qg, 0, none⟩ gv') := ((((Only.of_below HBW.out).trans (Only.of_below hb2))).trans (hon3'.mono fun k e => .inr e)).setCell (p := ⟨qg, 0, none⟩) (.inl rfl) _
  obtain ⟨Ag2, cg2, hgv2, _, _, _⟩ := hown3.shape eltI
  have HP := Lib.hid happ'
  have HF := Lib.hid hfin
  have HA := Lib.hid hall
  have HON := Lib.hid hon3'
  generalize (ids ++ [x.id]).length = n2 at hgv2
  clear happ happ' hfin hall hst2 hx2 hown3 hbel3 hon3 hv3 hq3 hon3' hgn
  subst hgv2
  go_wp2_with fail
  refine wp_region_mixO (fun k => (Value.slice Ag ids.length cg).ownBlock = some k) 7 (.one [0, 1, 2, 3, 4] 5 (.one [] 6 (.done []))) (by kernel_rfl) (fun c d v a w h => by cases d <;> exact h) (by kernel_rfl) ?_
  simp only [wpMixT, pk_nil, pk_cons, pushAt_zero, pushAt_succ, List.drop_succ_cons, List.drop_zero]
  repeat (go_big_quiet_step (fail))
  refine wpQuiet_nil ?_
  clear CG X0
  go_wp2_with fail
  refine thenQ_normal ⟨⟨⟨_, (Only.refl _ w2).drew.alloc _⟩, rfl⟩, ?_⟩
  refine wpQuiet_nil ?_
  refine wpList_app_run rfl _ _ _ rfl rfl rfl HP.out ?_
  go_wp2_with fail
  refine thenQ_normal ⟨⟨⟨_, HON.out⟩, rfl⟩, ?_⟩
  refine wpQuiet_nil ?_
  go_wp2_with fail
  go_ret
  exact ⟨rfl, _, HF.out, HA.out⟩
theorem delC {bm qo qm qg B : Nat} {gv : Value} {ids : List Int} (h : DelSt w b bm qo qm qg B ev m gv ids) (hx : OverIn w x) (hs : SortedP x.ps) (hl : x.ps.length ≤ 1000000) {was : Bool} (hw : lookM m x.id = some was) (hxB : x.g < B) (hil : ids.length ≤ 1000000) :
    Calls Tryz.prog 62 #[.pointer (some ⟨x.g, 0, none⟩), .pointer (some ⟨qo, 0, none⟩), .pointer (some ⟨qm, 0, none⟩), .pointer (some ⟨qg, 0, none⟩)] w (DelC w b bm qo qm qg B ev m gv ids (goesB was ev x.dat) (if goesB was ev x.dat then ids ++ [x.id] else ids)) := by
  have e : ∀ ps, x.dat.ps = ps → x.ps = ps := fun ps h => h
  cases hval : valP x.ps ev with
  | none =>
    cases was with
    | true => have hg : goesB true ev x.dat = false := rfl
              rw [hg]; exact delC_a h hx hs hl hval hw
    | false =>
      have hg : goesB false ev x.dat = false := by
        unfold goesB; rw [show x.dat.ps = x.ps from rfl, hval]; simp
      rw [hg]
      cases hft : (x.f == x.t) with
      | false => exact delC_b h hx hs hl hval hw hft
      | true => exact delC_c h hx hs hl hval hw hft
  | some kn =>
    obtain ⟨k, n⟩ := kn
    cases was with
    | true => have hg : goesB true ev x.dat = false := rfl
              rw [hg]; exact delC_d h hx hs hl hval hw
    | false =>
      cases hft : (x.f == x.t) with
      | false =>
        have hg : goesB false ev x.dat = false := by
          unfold goesB; rw [show x.dat.f = x.f from rfl, show x.dat.t = x.t from rfl, hft]; rfl
        rw [hg]; exact delC_e h hx hs hl hval hw hft
      | true =>
        cases hkn : (k == 1 && n == 0) with
        | true =>
          have hg : goesB false ev x.dat = false := by
            unfold goesB; rw [show x.dat.f = x.f from rfl, show x.dat.t = x.t from rfl, hft, show x.dat.ps = x.ps from rfl, hval]; simp [hkn]
          rw [hg]; exact delC_f h hx hs hl hval hw hft hkn
        | false =>
          have hg : goesB false ev x.dat = true := by
            unfold goesB; rw [show x.dat.f = x.f from rfl, show x.dat.t = x.t from rfl, hft, show x.dat.ps = x.ps from rfl, hval]; simp [hkn]
          rw [hg]; exact delC_g h hx hs hl hval hw hft hkn hxB hil
theorem enters_del : Enters 62 := enters_mk Tryz.func62 (by kernel_rfl) rfl
end
end Go.Proofs.YthjkdeocdhdkaaaGreat
