/- A region that draws its order, whose operations read old memory and call functions that make new memory: one walk in the order of the text. -/
import Derived.Test.YtnpamchdflfboaaScG
namespace Go.Proofs.Ytnpamchdflfboaa
open Go.RowKit Go.Shelf
set_option linter.unusedVariables false

/-- A world in which whatever lay below N in w0 lies as it lay. -/
structure UpW (N : Nat) (w0 : World) where
  w : World
  up : Below N w0 w
instance UpW.some (N : Nat) (w0 : World) : Nonempty (UpW N w0) := ⟨⟨w0, Below.refl N w0⟩⟩

theorem wp_region_up {P : Program} {id : Nat} {Q : Exit → Act → World → Prop} {a : Act} {w : World} {l : List Oper} (N : Nat) (hm : P.follows .mixedOrders = true) (hB : Region.lexB .any l.toArray = true)
    (h : wpQuiet P l.toArray (fun w' => ∃ x : UpW N w, w' = x.w) (fun a' => ∀ x : UpW N w, Q .normal a' x.w) l a) : (Code.region id l.toArray true).wp P Q a w :=
  wp_region_quiet (C := fun w' => ∃ x : UpW N w, w' = x.w) hm hB ⟨⟨w.drew, (Below.refl N w).drew⟩, rfl⟩ (by
    have e : (fun a' => ∀ w', (∃ x : UpW N w, w' = x.w) → Q .normal a' w') = (fun a' => ∀ x : UpW N w, Q .normal a' x.w) := by
      funext a'; exact propext ⟨fun h x => h _ ⟨x, rfl⟩, fun h w' ⟨x, hx⟩ => hx ▸ h x⟩
    rw [e]; simpa using h)

/-- A callee that makes new memory alone, met in such a world. -/
theorem Calls.up {P : Program} {f : FuncId} {args : Array Value} {N : Nat} {w0 : World} {v : Value} (x : UpW N w0) (hN : N ≤ w0.heap.size) (h : Calls P f args x.w fun e w' => e = .returned v ∧ Below x.w.heap.size x.w w') :
    Calls P f args x.w fun e w'' => e = .returned v ∧ ∃ y : UpW N w0, w'' = y.w :=
  h.mono fun e w' ⟨he, hb⟩ => ⟨he, ⟨w', x.up.trans (hb.mono (Nat.le_trans hN x.up.size))⟩, rfl⟩
theorem Calls.up_same {P : Program} {f : FuncId} {args : Array Value} {N : Nat} {w0 : World} {v : Value} (x : UpW N w0) (h : Calls P f args x.w fun e w' => e = .returned v ∧ x.w = w') :
    Calls P f args x.w fun e w'' => e = .returned v ∧ ∃ y : UpW N w0, w'' = y.w :=
  h.mono fun e w' ⟨he, hb⟩ => ⟨he, x, hb.symm⟩

/-- What Keep, Center, Page hand back, in one form. -/
def keepA (rows height start row margin step : Int) : Int := if keepOk rows height row step = true then keepN rows height start row margin step else 0
def keepE (rows height row step : Int) : Int := if keepOk rows height row step = true then 0 else 3
def centerA (rows height row line : Int) : Int := if centerOk rows height row = true then centerN rows height row line else 0
def centerE (rows height row : Int) : Int := if centerOk rows height row = true then 0 else 3
def pageA (rows height start n overlap : Int) : Int := if validI rows height = true then pageN rows height start n overlap else 0
def pageB (rows height start n overlap : Int) : Bool := if validI rows height = true then (pageN rows height start n overlap != clampI start 0 (rows - 1)) else false
def pageE (rows height : Int) : Int := if validI rows height = true then 0 else 3

theorem Keep_any (rows height start row margin step : Int) (w : World) :
    Calls Try.prog 9 #[.int .i64 rows, .int .i64 height, .int .i64 start, .int .i64 row, .int .i64 margin, .int .i64 step] w
      fun e w' => e = .returned (.tuple #[.int .i64 (keepA rows height start row margin step), .int .i64 (keepE rows height row step)]) ∧ Below w.heap.size w w' := by
  unfold keepA keepE
  by_cases h : keepOk rows height row step = true
  · rw [if_pos h, if_pos h]; exact keep_yes _ _ _ _ _ _ w h
  · rw [if_neg h, if_neg h]; exact keep_no _ _ _ _ _ _ w (by simpa using h)
theorem KeepR_any (rows height start row margin step : Int) (w : World) :
    Calls Try.prog 10 #[.int .i64 rows, .int .i64 height, .int .i64 start, .int .i64 row, .int .i64 margin, .int .i64 step] w
      fun e w' => e = .returned (.tuple #[.int .i64 (keepA rows height start row margin step), .int .i64 (keepE rows height row step)]) ∧ w = w' := by
  unfold keepA keepE
  by_cases h : keepOk rows height row step = true
  · rw [if_pos h, if_pos h]; exact KeepR_yes _ _ _ _ _ _ w h
  · rw [if_neg h, if_neg h]; exact KeepR_no _ _ _ _ _ _ w (by simpa using h)
theorem Center_any (rows height row line : Int) (w : World) :
    Calls Try.prog 11 #[.int .i64 rows, .int .i64 height, .int .i64 row, .int .i64 line] w
      fun e w' => e = .returned (.tuple #[.int .i64 (centerA rows height row line), .int .i64 (centerE rows height row)]) ∧ Below w.heap.size w w' := by
  unfold centerA centerE
  by_cases h : centerOk rows height row = true
  · rw [if_pos h, if_pos h]; exact Center_yes _ _ _ _ w h
  · rw [if_neg h, if_neg h]; exact Center_no _ _ _ _ w (by simpa using h)
theorem CenterR_any (rows height row line : Int) (w : World) :
    Calls Try.prog 12 #[.int .i64 rows, .int .i64 height, .int .i64 row, .int .i64 line] w
      fun e w' => e = .returned (.tuple #[.int .i64 (centerA rows height row line), .int .i64 (centerE rows height row)]) ∧ w = w' := by
  unfold centerA centerE
  by_cases h : centerOk rows height row = true
  · rw [if_pos h, if_pos h]; exact CenterR_yes _ _ _ _ w h
  · rw [if_neg h, if_neg h]; exact CenterR_no _ _ _ _ w (by simpa using h)
theorem Page_any (rows height start n overlap : Int) (w : World) :
    Calls Try.prog 15 #[.int .i64 rows, .int .i64 height, .int .i64 start, .int .i64 n, .int .i64 overlap] w
      fun e w' => e = .returned (.tuple #[.int .i64 (pageA rows height start n overlap), .bool (pageB rows height start n overlap), .int .i64 (pageE rows height)]) ∧ Below w.heap.size w w' := by
  unfold pageA pageB pageE
  by_cases h : validI rows height = true
  · rw [if_pos h, if_pos h, if_pos h]; exact Page_yes _ _ _ _ _ w h
  · rw [if_neg h, if_neg h, if_neg h]; exact Page_no _ _ _ _ _ w (by simpa using h)
theorem PageR_any (rows height start n overlap : Int) (w : World) :
    Calls Try.prog 16 #[.int .i64 rows, .int .i64 height, .int .i64 start, .int .i64 n, .int .i64 overlap] w
      fun e w' => e = .returned (.tuple #[.int .i64 (pageA rows height start n overlap), .bool (pageB rows height start n overlap), .int .i64 (pageE rows height)]) ∧ w = w' := by
  unfold pageA pageB pageE
  by_cases h : validI rows height = true
  · rw [if_pos h, if_pos h, if_pos h]; exact PageR_yes _ _ _ _ _ w h
  · rw [if_neg h, if_neg h, if_neg h]; exact PageR_no _ _ _ _ _ w (by simpa using h)

abbrev askV (x0 x1 x2 x3 x4 x5 x6 x7 x8 : Int) : Value := .agg #[.int .i64 x0, .int .i64 x1, .int .i64 x2, .int .i64 x3, .int .i64 x4, .int .i64 x5, .int .i64 x6, .int .i64 x7, .int .i64 x8]
abbrev askC (x0 x1 x2 x3 x4 x5 x6 x7 x8 : Int) : Obj := .cells #[.int .i64 x0, .int .i64 x1, .int .i64 x2, .int .i64 x3, .int .i64 x4, .int .i64 x5, .int .i64 x6, .int .i64 x7, .int .i64 x8] 23
/-- The argument's box. -/
def AskAt (b : Nat) (w : World) (x0 x1 x2 x3 x4 x5 x6 x7 x8 : Int) : Prop :=
  w.cell? ⟨b, 0, none⟩ = some (.int .i64 x0) ∧ w.cell? ⟨b, 1, none⟩ = some (.int .i64 x1) ∧ w.cell? ⟨b, 2, none⟩ = some (.int .i64 x2) ∧ w.cell? ⟨b, 3, none⟩ = some (.int .i64 x3) ∧ w.cell? ⟨b, 4, none⟩ = some (.int .i64 x4) ∧ w.cell? ⟨b, 5, none⟩ = some (.int .i64 x5) ∧ w.cell? ⟨b, 6, none⟩ = some (.int .i64 x6) ∧ w.cell? ⟨b, 7, none⟩ = some (.int .i64 x7) ∧ w.cell? ⟨b, 8, none⟩ = some (.int .i64 x8)
theorem askAt_new (w : World) (x0 x1 x2 x3 x4 x5 x6 x7 x8 : Int) : AskAt w.heap.size (w.alloc (askC x0 x1 x2 x3 x4 x5 x6 x7 x8)) x0 x1 x2 x3 x4 x5 x6 x7 x8 := by
  have h := World.alloc_heap_new w (askC x0 x1 x2 x3 x4 x5 x6 x7 x8)
  refine ⟨?_, ?_, ?_, ?_, ?_, ?_, ?_, ?_, ?_⟩ <;> (simp only [World.cell?, h]; rfl)
theorem AskAt.kept {b B : Nat} {w w' : World} {x0 x1 x2 x3 x4 x5 x6 x7 x8 : Int} (h : AskAt b w x0 x1 x2 x3 x4 x5 x6 x7 x8) (hb : Below B w w') (hB : b < B) : AskAt b w' x0 x1 x2 x3 x4 x5 x6 x7 x8 := by
  obtain ⟨a0, a1, a2, a3, a4, a5, a6, a7, a8⟩ := h
  exact ⟨(hb.cell (p := ⟨b, 0, none⟩) hB).trans a0, (hb.cell (p := ⟨b, 1, none⟩) hB).trans a1, (hb.cell (p := ⟨b, 2, none⟩) hB).trans a2, (hb.cell (p := ⟨b, 3, none⟩) hB).trans a3, (hb.cell (p := ⟨b, 4, none⟩) hB).trans a4, (hb.cell (p := ⟨b, 5, none⟩) hB).trans a5, (hb.cell (p := ⟨b, 6, none⟩) hB).trans a6, (hb.cell (p := ⟨b, 7, none⟩) hB).trans a7, (hb.cell (p := ⟨b, 8, none⟩) hB).trans a8⟩
end Go.Proofs.Ytnpamchdflfboaa
