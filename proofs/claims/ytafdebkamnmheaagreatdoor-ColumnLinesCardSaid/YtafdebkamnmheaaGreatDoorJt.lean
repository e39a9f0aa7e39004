import Derived.Test.YtafdebkamnmheaaGreatDoorRfB
import Derived.Test.YtafdebkamnmheaaGreatDoorJk
import Derived.Test.YtafdebkamnmheaaGreatDoorJe
/- The reference: insertions into no marks, properties, overlays; into an empty text. -/
namespace Go.Proofs.YtafdebkamnmheaaGreatDoor
open Go.RowKit
set_option linter.unusedVariables false
set_option linter.unusedSimpArgs false
def encX (x : Empty) : List Value := nomatch x
theorem eltMk0 : Elt encX 134 183 3 24 (.agg #[.int .i64 0, .int .i64 0, .bool false]) := ⟨Tryz.underlying134, by kernel_rfl, rfl, by omega, (fun x => nomatch x), (fun x => nomatch x)⟩
theorem eltOv0 : Elt encX 140 186 6 56 (.agg #[.int .i64 0, .int .i64 0, .int .i64 0, .bool false, .bool false, .slice none 0 0]) := ⟨Tryz.underlying140, by kernel_rfl, rfl, by omega, (fun x => nomatch x), (fun x => nomatch x)⟩
section
variable {w w' : World} {b t m p o l : Nat}
set_option maxHeartbeats 1000000 in
theorem rpIns0 (n : Int) (h3 : 0 ≤ n) (h4 : n ≤ 65536) (h : Blk w p 139 #[.slice none 0 0]) : Calls Tryz.prog 104 #[pAt p, .int .i64 1, .int .i64 n] w fun e w' => e = .returned (.int .i64 0) ∧ w = w' := by
  have d3 : decide (n < 0) = false := decide_eq_false (by omega)
  have d4 : decide ((65536 : Int) < n) = false := decide_eq_false (by omega)
  have c0 := h.cell (j := 0) rfl
  clear h h3 h4
  go_enter Tryz.func104, Tryz.ntmps104
  go_wp2_with fail
  go_loopw [7] (fun va wr => va = .int .i64 1 ∧ w = wr) (fun _ _ => 0)
  case atStart => exact ⟨rfl, rfl⟩
  case round =>
    obtain ⟨rfl, rfl⟩ := hrel
    go_wp2_with fail
    go_ret
    exact ⟨rfl, rfl⟩
set_option maxHeartbeats 1000000 in
theorem r16place_ok (a : Int) (h1 : 1 ≤ a) (h2 : a ≤ 1099511627776) (w : World) : Calls Tryz.prog 137 #[.int .i64 a] w fun e w' => e = .returned (.bool true) ∧ w = w' := by
  have d1 : decide ((1 : Int) ≤ a) = true := decide_eq_true h1
  have d2 : decide (a ≤ (1099511627776 : Int)) = true := decide_eq_true h2
  clear h1 h2
  go_enter Tryz.func137, Tryz.ntmps137
  go_wp2_with fail
  go_ret
  exact ⟨rfl, rfl⟩
set_option maxHeartbeats 1000000 in
theorem r18place_ok (a : Int) (h1 : 1 ≤ a) (h2 : a ≤ 1099511627776) (w : World) : Calls Tryz.prog 138 #[.int .i64 a] w fun e w' => e = .returned (.bool true) ∧ w = w' := by
  have d1 : decide ((1 : Int) ≤ a) = true := decide_eq_true h1
  have d2 : decide (a ≤ (1099511627776 : Int)) = true := decide_eq_true h2
  clear h1 h2
  go_enter Tryz.func138, Tryz.ntmps138
  go_wp2_with fail
  go_ret
  exact ⟨rfl, rfl⟩
set_option maxRecDepth 100000 in
set_option maxHeartbeats 1000000 in
theorem rmIns0 (n : Int) (ah : Bool) (h3 : 0 ≤ n) (h4 : n ≤ 65536) (h : Blk w m 136 #[.slice none 0 0, .int .i64 0]) : Calls Tryz.prog 103 #[pAt m, .int .i64 1, .int .i64 n, .bool ah] w fun e w' => e = .returned (.int .i64 0) ∧ Only (fun k => k = m) w w' := by
  have d3 : decide (n < 0) = false := decide_eq_false (by omega)
  have d4 : decide ((65536 : Int) < n) = false := decide_eq_false (by omega)
  have hb1 := below1 w (.cells #[] 183)
  obtain ⟨v', w2, hrun, hown, hgr, _⟩ := append_run eltMk0 (A := none) (ys := []) (ROwn.empty (enc := encX) (E := 183) (k := 3) w.heap.size w (Nat.le_refl _)) (by simp) (RSl.nil _ _) 0 (by simp) (by omega)
  have hb2 : Below w.heap.size w w2 := hb1.grown hgr hb1.size (fun k hk => by simp [Value.ownBlock] at hk; omega)
  obtain ⟨A2, c2, hv2, _, _, _⟩ := hown.shape eltMk0
  simp only [List.append_nil, List.length_nil] at hv2
  subst hv2
  have c0 := h.cell (j := 0) rfl
  have HR := Lib.hid hrun
  have H2 := Lib.hid (h.up hb2)
  have B2 := Lib.hid hb2
  have hmw := h.lt
  clear h h3 h4 hrun hown hgr hb1
  have HP := Lib.hid (r16place_ok 1 (by omega) (by omega) w)
  have q0 := H2.out.cell (j := 0) rfl
  have f0 := H2.out.fz 0
  go_enter Tryz.func103, Tryz.ntmps103
  go_wp2_with fail
  refine HP.out.mono ?_
  rintro e w1 ⟨rfl, rfl⟩
  go_wp2_with (at_builtin; refine wpList_app_run rfl _ _ _ rfl rfl rfl HR.out ?_)
  go_loopw [10] (fun va wr => va = .int .i64 0 ∧ w2 = wr) (fun _ _ => 0)
  case atStart => exact ⟨rfl, rfl⟩
  case round =>
    obtain ⟨rfl, rfl⟩ := hrel
    go_wp2_with fail
    go_ret
    exact ⟨rfl, (Only.of_below (S := fun k => k = m) B2.out).setCell (p := ⟨m, 0, none⟩) rfl _⟩
set_option maxRecDepth 100000 in
set_option maxHeartbeats 1000000 in
theorem roIns0 (x y n : Int) (h3 : 0 ≤ n) (h4 : n ≤ 65536) (h : Blk w o 142 #[.slice none 0 0, .int .i64 0, .int .i64 x, .int .i64 y]) : Calls Tryz.prog 105 #[pAt o, .int .i64 1, .int .i64 n] w fun e w' => e = .returned (.int .i64 0) ∧ Only (fun k => k = o) w w' := by
  have d3 : decide (n < 0) = false := decide_eq_false (by omega)
  have d4 : decide ((65536 : Int) < n) = false := decide_eq_false (by omega)
  have hb1 := below1 w (.cells #[] 186)
  obtain ⟨v', w2, hrun, hown, hgr, _⟩ := append_run eltOv0 (A := none) (ys := []) (ROwn.empty (enc := encX) (E := 186) (k := 6) w.heap.size w (Nat.le_refl _)) (by simp) (RSl.nil _ _) 0 (by simp) (by omega)
  have hb2 : Below w.heap.size w w2 := hb1.grown hgr hb1.size (fun k hk => by simp [Value.ownBlock] at hk; omega)
  obtain ⟨A2, c2, hv2, _, _, _⟩ := hown.shape eltOv0
  simp only [List.append_nil, List.length_nil] at hv2
  subst hv2
  have c0 := h.cell (j := 0) rfl
  have HR := Lib.hid hrun
  have H2 := Lib.hid (h.up hb2)
  have B2 := Lib.hid hb2
  have hmw := h.lt
  clear h h3 h4 hrun hown hgr hb1
  have HP := Lib.hid (r18place_ok 1 (by omega) (by omega) w)
  have q0 := H2.out.cell (j := 0) rfl
  have f0 := H2.out.fz 0
  go_enter Tryz.func105, Tryz.ntmps105
  go_wp2_with fail
  refine HP.out.mono ?_
  rintro e w1 ⟨rfl, rfl⟩
  go_wp2_with (at_builtin; refine wpList_app_run rfl _ _ _ rfl rfl rfl HR.out ?_)
  go_loopw [8] (fun va wr => va = .int .i64 0 ∧ w2 = wr) (fun _ _ => 0)
  case atStart => exact ⟨rfl, rfl⟩
  case round =>
    obtain ⟨rfl, rfl⟩ := hrel
    go_wp2_with fail
    go_ret
    exact ⟨rfl, (Only.of_below (S := fun k => k = o) B2.out).setCell (p := ⟨o, 0, none⟩) rfl _⟩
end
end Go.Proofs.YtafdebkamnmheaaGreatDoor
/- The reference's log: Check, cost (the kinds Clean, Point, Insert). -/
namespace Go.Proofs.YtafdebkamnmheaaGreatDoor
open Go.RowKit
set_option linter.unusedVariables false
set_option linter.unusedSimpArgs false
abbrev rlC (o : Value) (n : Int) : Array Value := #[.slice none 0 0, o, .int .i64 1048576, .int .i64 (-1), .int .i64 0, .int .i64 n]
section
variable {w w' : World} {l : Nat}
set_option maxHeartbeats 1000000 in
theorem rcost (k a b : Int) (hk : k = 1 ∨ k = 4 ∨ k = 6) (w : World) : Calls Tryz.prog 108 #[chV (k, a, b)] w fun e w' => e = .returned (.int .i64 1) ∧ Below w.heap.size w w' := by
  have d0 : ((k : Int) == 2) = false := by rcases hk with rfl | rfl | rfl <;> rfl
  clear hk
  go_enter Tryz.func108, Tryz.ntmps108
  go_wp2_with fail
  go_ret
  exact ⟨rfl, below1 w _⟩
set_option maxHeartbeats 1000000 in
theorem r19place_ok (a : Int) (h1 : 1 ≤ a) (h2 : a ≤ 1099511627776) (w : World) : Calls Tryz.prog 178 #[.int .i64 a] w fun e w' => e = .returned (.bool true) ∧ w = w' := by
  have d1 : decide ((1 : Int) ≤ a) = true := decide_eq_true h1
  have d2 : decide (a ≤ (1099511627776 : Int)) = true := decide_eq_true h2
  clear h1 h2
  go_enter Tryz.func178, Tryz.ntmps178
  go_wp2_with fail
  go_ret
  exact ⟨rfl, rfl⟩
set_option maxHeartbeats 2000000 in
theorem rcheck6 (w : World) : Calls Tryz.prog 158 #[chV (6, 0, 0)] w fun e w' => e = .returned (.int .i64 0) ∧ Below w.heap.size w w' := by
  go_enter Tryz.func158, Tryz.ntmps158
  go_wp2_with fail
  go_ret
  exact ⟨rfl, below1 w _⟩
set_option maxHeartbeats 2000000 in
theorem rcheck4 (p : Nat) (h1 : 1 ≤ p) (h2 : p ≤ 1000000000) (w : World) : Calls Tryz.prog 158 #[chV (4, (p : Int), 0)] w fun e w' => e = .returned (.int .i64 0) ∧ Below w.heap.size w w' := by
  have HP := Lib.hid fun W => r19place_ok (p : Int) (by omega) (by omega) W
  clear h1 h2
  go_enter Tryz.func158, Tryz.ntmps158
  go_wp2_with fail
  refine (HP.out _).mono ?_
  rintro e w' ⟨rfl, rfl⟩
  go_wp2_with fail
  go_ret
  exact ⟨rfl, below1 w _⟩
set_option maxHeartbeats 2000000 in
theorem rcheck1 (p q : Nat) (h1 : 1 ≤ p) (h2 : p ≤ q) (h3 : q ≤ 1000000000) (w : World) : Calls Tryz.prog 158 #[chV (1, (p : Int), (q : Int))] w fun e w' => e = .returned (.int .i64 0) ∧ Below w.heap.size w w' := by
  have HP := Lib.hid fun W => r19place_ok (p : Int) (by omega) (by omega) W
  have HQ := Lib.hid fun W => r19place_ok (q : Int) (by omega) (by omega) W
  have d3 : (q < p) = False := by simp; omega
  clear h1 h2 h3
  go_enter Tryz.func158, Tryz.ntmps158
  go_wp2_with fail
  refine (HP.out _).mono ?_
  rintro e w' ⟨rfl, rfl⟩
  go_wp2_with fail
  refine (HQ.out _).mono ?_
  rintro e w' ⟨rfl, rfl⟩
  go_wp2_with fail
  go_ret
  exact ⟨rfl, below1 w _⟩
end
end Go.Proofs.YtafdebkamnmheaaGreatDoor
