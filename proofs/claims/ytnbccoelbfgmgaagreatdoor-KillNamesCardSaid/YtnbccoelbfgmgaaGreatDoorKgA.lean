/- Registers: slices.Clone at strings; runes.Is; the closure of kill.plain, slices.IndexFunc and ContainsFunc with it; the reference's char. -/
import Derived.Test.YtnbccoelbfgmgaaGreatDoorRkH
namespace Go.Proofs.YtnbccoelbfgmgaaGreatDoor
open Go.RowKit
set_option linter.unusedVariables false
set_option linter.unusedSimpArgs false
section
variable {w w' : World} {b N : Nat} {A : Option Addr} {L : List ByteArray}
set_option maxRecDepth 100000 in
set_option maxHeartbeats 1000000 in
theorem clone_any (h : RSl encStr w A L) (c : Nat) (hl : L.length ≤ 1000000) : Calls Tryz.prog 52 #[.slice A L.length c] w (SlPost w L) := by
  have h0 := ROwn.empty (enc := encStr) (E := 9) (k := 1) w.heap.size w (Nat.le_refl _)
  obtain ⟨v', w', happ, hown', hg, _⟩ := append_run eltStr h0 (by simp) (h.up (below1 _ _)) c (by simp; omega) (by omega)
  have HP := Lib.hid happ
  clear happ
  rcases A with _ | a
  · have hL : L = [] := by
      rcases Nat.eq_zero_or_pos L.length with h1 | h1
      · exact List.eq_nil_of_length_eq_zero h1
      · obtain ⟨g, o, e, _⟩ := h h1; cases e
    subst hL
    have hnil := fun w => Lib.run_eql_slice_nil (P := Tryz.prog) w 34 9 none 0 c 0 0 Tryz.underlying34
    go_enter Tryz.func52, Tryz.ntmps52
    go_wp2_with fail
    go_ret
    exact ⟨_, rfl, ROwn.nil _ _, Below.refl _ _⟩
  · have hnil := fun w => Lib.run_eql_slice_nil (P := Tryz.prog) w 34 9 (some a) L.length c 0 0 Tryz.underlying34
    go_enter Tryz.func52, Tryz.ntmps52
    go_wp2_with (at_builtin; refine wpList_app_run rfl _ _ _ rfl rfl rfl HP.out ?_)
    go_ret
    exact ⟨_, rfl, by simpa using hown', (below1 _ _).grown hg (by simp) (fun k hk => h0.base hk)⟩
/-- A character's number. -/
def charI (c : Int) : Bool := decide (0 ≤ c) && (decide (c ≤ 1114111) && !(decide (55296 ≤ c) && decide (c ≤ 57343)))
set_option maxHeartbeats 400000 in
theorem runesIs (c : Int) (w : World) : Calls Tryz.prog 50 #[.int .i64 c] w fun e w' => e = .returned (.bool (charI c)) ∧ w = w' := by
  unfold charI
  by_cases h0 : 0 ≤ c
  · have d0 : decide (0 ≤ c) = true := decide_eq_true h0
    by_cases h1 : c ≤ 1114111
    · have d1 : decide (c ≤ (1114111 : Int)) = true := decide_eq_true h1
      by_cases h2 : 55296 ≤ c
      · have d2 : decide ((55296 : Int) ≤ c) = true := decide_eq_true h2
        by_cases h3 : c ≤ 57343
        · have d3 : decide (c ≤ (57343 : Int)) = true := decide_eq_true h3
          rw [d0, d1, d2, d3]
          clear h0 h1 h2 h3
          go_enter Tryz.func50, Tryz.ntmps50
          go_wp2
          go_ret
          exact ⟨rfl, rfl⟩
        · have d3 : decide (c ≤ (57343 : Int)) = false := decide_eq_false h3
          rw [d0, d1, d2, d3]
          clear h0 h1 h2 h3
          go_enter Tryz.func50, Tryz.ntmps50
          go_wp2
          go_ret
          exact ⟨rfl, rfl⟩
      · have d2 : decide ((55296 : Int) ≤ c) = false := decide_eq_false h2
        rw [d0, d1, d2]
        clear h0 h1 h2
        go_enter Tryz.func50, Tryz.ntmps50
        go_wp2
        go_ret
        exact ⟨rfl, rfl⟩
    · have d1 : decide (c ≤ (1114111 : Int)) = false := decide_eq_false h1
      rw [d0, d1]
      clear h0 h1
      go_enter Tryz.func50, Tryz.ntmps50
      go_wp2
      go_ret
      exact ⟨rfl, rfl⟩
  · have d0 : decide (0 ≤ c) = false := decide_eq_false h0
    rw [d0]
    clear h0
    go_enter Tryz.func50, Tryz.ntmps50
    go_wp2
    go_ret
    exact ⟨rfl, rfl⟩
set_option maxHeartbeats 400000 in
theorem wrong_any (s : ByteArray) (w : World) (hs : s.size ≤ 1000000000) (hT : Tabs N w) : Calls Tryz.prog 99 #[.string s] w fun e w' => e = .returned (.bool (!vld s)) ∧ Below w.heap.size w w' := by
  have HV := Lib.hid (valid_any s w hs hT)
  cases hv : vld s with
  | true =>
    rw [hv] at HV
    clear hv
    go_enter Tryz.func99, Tryz.ntmps99
    go_wp2_with fail
    refine HV.out.mono ?_
    rintro e w' ⟨rfl, hb⟩
    go_wp2_with fail
    go_ret
    exact ⟨rfl, hb⟩
  | false =>
    rw [hv] at HV
    clear hv
    go_enter Tryz.func99, Tryz.ntmps99
    go_wp2_with fail
    refine HV.out.mono ?_
    rintro e w' ⟨rfl, hb⟩
    go_wp2_with fail
    go_ret
    exact ⟨rfl, hb⟩
end
end Go.Proofs.YtnbccoelbfgmgaaGreatDoor
