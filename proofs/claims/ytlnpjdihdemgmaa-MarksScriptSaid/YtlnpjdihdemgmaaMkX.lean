/- marks.In, its parts: cmp.Compare, cmp.Or, the closure that compares two marks by position and number. -/
import Derived.Test.YtlnpjdihdemgmaaMkR
import Derived.Test.YtlnpjdihdemgmaaLayT
namespace Go.Proofs.Ytlnpjdihdemgmaa
open Go.RowKit Go.Sort Go.Shelf
set_option linter.unusedVariables false

/-- A world that has only drawn since w0. -/
structure DrW (w0 : World) where
  w : World
  dr : ∃ q, w = w0.drewN q
instance DrW.some (w0 : World) : Nonempty (DrW w0) := ⟨⟨w0.drewN 1, 1, rfl⟩⟩
theorem Calls.dr_same {P : Program} {f : FuncId} {args : Array Value} {w0 : World} {v : Value} (x : DrW w0) (h : Calls P f args x.w fun e w' => e = .returned v ∧ x.w = w') :
    Calls P f args x.w fun e w'' => e = .returned v ∧ ∃ y : DrW w0, w'' = y.w :=
  h.mono fun e w' ⟨he, hb⟩ => ⟨he, x, hb.symm⟩
/-- n operations that only draw and read, in whatever order; then the others, in the one order that is left to them. -/
theorem wp_region_dr_tail {P : Program} {id : Nat} {Q : Exit → Act → World → Prop} {a : Act} {w : World} {l : List Oper} (n : Nat) (hm : P.follows .mixedOrders = true) (hB : Region.lexTailB .any l.toArray n = true)
    (h : wpQuiet P l.toArray (fun w' => ∃ x : DrW w, w' = x.w) (fun a' => ∀ x : DrW w, wpList P l.toArray Q (l.drop n) a' x.w) (l.take n) a) : (Code.region id l.toArray true).wp P Q a w := by
  simp only [Region.lexTailB, Bool.and_eq_true, decide_eq_true_eq] at hB
  obtain ⟨⟨⟨⟨hsel, hn⟩, hs⟩, hc⟩, hlex⟩ := hB
  have hn' : n < l.length := by simpa using hn
  have htl : (l.take n).length = n := by simp; omega
  have hdl : (l.drop n).length = l.toArray.size - n := by simp
  have inv0 : HeadInv .any l.toArray n (Array.replicate l.toArray.size false) :=
    ⟨by simp, fun j oj _ hl => (by rw [getD_replicate_false] at hl; cases hl), fun t _ ht => getD_in (by simpa using ht) (getD_replicate_false _ _)⟩
  have H := head_lex (md := .any) (g := l.toArray.size - n) hsel hs hc hn (l.take n) 0 _ a (fun j hj => by
    have hj' : j < n := by rw [htl] at hj; exact hj
    simp [hj']) (by simpa using htl) inv0 (by rw [htl]; exact hlex) h
  refine wp_region_any hm ?_
  have := any_of_head (Q := Q) (g := l.toArray.size - n) (fun listed a' w' hw hL => by
    obtain ⟨x, rfl⟩ := hw
    have := wpAny_of_seq (md := .any) (Q' := Q) (l.drop n) n listed a' x.w (fun j => by simp [List.getElem?_drop]) (by rw [hdl]; exact hL.1) (hL.2 x)
    rwa [hdl] at this) _ _ _ _ ⟨⟨w.drewN 1, 1, rfl⟩, rfl⟩ H
  rw [htl, show n + (l.toArray.size - n) = l.toArray.size by omega] at this
  exact this

def cmpI (x y : Int) : Int := if x < y then -1 else if y < x then 1 else 0
def mkI (m : List (Int × Mk)) (x : Int) : Mk := (lookM m x).getD (0, false)
def orI (c d : Int) : Int := if c = 0 then d else c
def cfI (m : List (Int × Mk)) (x y : Int) : Int := orI (cmpI (mkI m x).1 (mkI m y).1) (cmpI x y)

set_option maxHeartbeats 400000 in
theorem isnan_any (x : Int) (w : World) : Calls Try.prog 60 #[.int .i64 x] w fun e w' => e = .returned (.bool false) ∧ w = w' := by
  have hx : (x != x) = false := by simp
  go_enter Try.func60, Try.ntmps60
  go_wp2
  go_ret
  exact ⟨rfl, rfl⟩
set_option maxHeartbeats 400000 in
theorem cmp_any (x y : Int) (w : World) : Calls Try.prog 46 #[.int .i64 x, .int .i64 y] w fun e w' => e = .returned (.int .i64 (cmpI x y)) ∧ w = w' := by
  go_enter Try.func46, Try.ntmps46
  go_wp2_with (go_at_call 60; refine (isnan_any _ _).mono ?_; rintro e w' ⟨rfl, rfl⟩)
  all_goals (go_ret; exact ⟨ret_int (by unfold cmpI; omega), rfl⟩)
set_option maxHeartbeats 1000000 in
theorem or_any (g cap : Nat) (c d : Int) (w : World) (h0 : w.cell? ⟨g, 0, none⟩ = some (.int .i64 c)) (h1 : w.cell? ⟨g, 1, none⟩ = some (.int .i64 d)) : Calls Try.prog 45 #[.slice (some ⟨g, 0, none⟩) 2 cap] w fun e w' => e = .returned (.int .i64 (orI c d)) ∧ w = w' := by
  go_enter Try.func45, Try.ntmps45
  go_wp2
  go_loop [5, 8] (fun _ vi => ∃ k : Nat, k ≤ 2 ∧ vi = .int .i64 k ∧ (1 ≤ k → c = 0) ∧ (2 ≤ k → d = 0)) (fun _ vi => 2 - (intOf vi).toNat)
  case atStart => exact ⟨0, by omega, rfl, by omega, by omega⟩
  case round =>
    obtain ⟨k, hk, rfl, hc, hd⟩ := hrel
    have HC := Lib.hid hc
    have HD := Lib.hid hd
    clear hc hd
    have hcase : k = 0 ∨ k = 1 ∨ k = 2 := by omega
    rcases hcase with rfl | rfl | rfl
    · by_cases hz : c = 0
      · subst hz
        go_wp2
        go_round
        case rel => exact ⟨1, by omega, by go_num, by simp, by omega⟩
        case measure => simp [intOf]
      · have hz' : (c != 0) = true := by simpa using hz
        go_wp2
        go_ret
        exact ⟨ret_int (by unfold orI; rw [if_neg hz]), rfl⟩
    · have hc0 := HC.out (by omega)
      subst hc0
      by_cases hz : d = 0
      · subst hz
        go_wp2
        go_round
        case rel => exact ⟨2, by omega, by go_num, by simp, by simp⟩
        case measure => simp [intOf]
      · have hz' : (d != 0) = true := by simpa using hz
        go_wp2
        go_ret
        exact ⟨ret_int (by unfold orI; rw [if_pos rfl]), rfl⟩
    · have hc0 := HC.out (by omega)
      have hd0 := HD.out (by omega)
      subst hc0 hd0
      go_wp2
      go_ret
      exact ⟨ret_int (by unfold orI; rfl), rfl⟩

/-- Handed back: a number; the world has drawn and grown. -/
def GrowPost (c : Int) (W : World) (e : Ending) (w' : World) : Prop := e = .returned (.int .i64 c) ∧ ∃ q os', w' = grow (W.drewN q) os'
theorem pair_cells (W : World) (q : Nat) (c d : Int) : ((W.drewN q).alloc (.cells #[.int .i64 c, .int .i64 d] 3)).cell? ⟨W.heap.size, 0, none⟩ = some (.int .i64 c) ∧ ((W.drewN q).alloc (.cells #[.int .i64 c, .int .i64 d] 3)).cell? ⟨W.heap.size, 1, none⟩ = some (.int .i64 d) := by
  have h : ((W.drewN q).alloc (.cells #[.int .i64 c, .int .i64 d] 3)).heap[W.heap.size]? = some (.cells #[.int .i64 c, .int .i64 d] 3) := (MapKept.heap_alloc (W.drewN q) (.cells #[.int .i64 c, .int .i64 d] 3)).1
  constructor <;> (simp only [World.cell?, h]; rfl)
theorem lookI {W : World} {b bm : Nat} {m : List (Int × Mk)} {n : Int} (h : MarksAt W b bm m n) (x : Int) : (Instr.lookup 60 (.map (some bm)) (.int .i64 x) false).run Try.prog W = .ok (encM (mkI m x)) W := by
  unfold mkI
  rcases hv : lookM m x with _ | v
  · have := h.im.look_none mapT keyT hv false (z := encM (0, false)) (by kernel_rfl)
    simpa using this
  · have := h.im.look_some mapT keyT hv false
    simpa using this

set_option maxRecDepth 100000 in
set_option maxHeartbeats 1000000 in
theorem in1_any {W : World} {B b bm : Nat} {m : List (Int × Mk)} {n : Int} (hB : W.cell? ⟨B, 0, none⟩ = some (.pointer (some ⟨b, 0, none⟩))) (h : MarksAt W b bm m n) (x y : Int) :
    Calls Try.prog 44 #[.int .i64 x, .int .i64 y, .pointer (some ⟨B, 0, none⟩)] W (GrowPost (cfI m x y) W) := by
  have hx : ∀ d : DrW W, (Instr.lookup 60 (.map (some bm)) (.int .i64 x) false).run Try.prog d.w = .ok (encM (mkI m x)) d.w := fun ⟨w, q, e⟩ => by subst e; exact lookI (W := W.drewN q) (h.kept rfl rfl) x
  have hy : ∀ d : DrW W, (Instr.lookup 60 (.map (some bm)) (.int .i64 y) false).run Try.prog d.w = .ok (encM (mkI m y)) d.w := fun ⟨w, q, e⟩ => by subst e; exact lookI (W := W.drewN q) (h.kept rfl rfl) y
  have C0 : ∀ d : DrW W, d.w.cell? ⟨B, 0, none⟩ = some (.pointer (some ⟨b, 0, none⟩)) := fun ⟨w, q, e⟩ => by subst e; exact hB
  have C1 : ∀ d : DrW W, d.w.cell? ⟨b, 0, none⟩ = some (.map (some bm)) := fun ⟨w, q, e⟩ => by subst e; exact h.c0
  clear hB h
  unfold cfI
  generalize mkI m x = X at *
  generalize mkI m y = Y at *
  obtain ⟨xa, xb⟩ := X
  obtain ⟨ya, yb⟩ := Y
  have fx := fieldMk0 (xa, xb)
  have fy := fieldMk0 (ya, yb)
  dsimp only
  go_enter Try.func44, Try.ntmps44
  go_wp2_with fail
  refine wp_region_dr_tail 18 (by kernel_rfl) (by kernel_rfl) ?_
  simp only [List.take_succ_cons, List.take_zero, List.drop_succ_cons, List.drop_zero]
  repeat (go_big_quiet_step ((go_at_call 46; exact Calls.dr_same _ (cmp_any _ _ _))))
  refine wpQuiet_nil ?_
  rintro ⟨w2, q, rfl⟩
  dsimp only
  clear C0 C1 hx hy fx fy
  obtain ⟨p0, p1⟩ := pair_cells W q (cmpI xa ya) (cmpI x y)
  have P0 := Lib.hid p0
  have P1 := Lib.hid p1
  clear p0 p1
  go_wp2_with fail
  refine (or_any _ _ (cmpI xa ya) (cmpI x y) _ (by exact P0.out) (by exact P1.out)).mono ?_
  rintro e w' ⟨rfl, rfl⟩
  go_wp2_with fail
  go_ret
  exact ⟨rfl, q, _, alloc_eq_grow (W.drewN q) _⟩
end Go.Proofs.Ytlnpjdihdemgmaa
