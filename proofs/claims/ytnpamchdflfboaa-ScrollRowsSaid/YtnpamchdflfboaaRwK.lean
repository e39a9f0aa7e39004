/- Row, Point of both. -/
import Derived.Test.YtnpamchdflfboaaRwJ
namespace Go.Proofs.Ytnpamchdflfboaa
open Go.RowKit Go.Shelf
set_option linter.unusedVariables false
set_option linter.unusedSimpArgs false
section
variable {w w' : World} {A A' : Option Addr} {l l' : List RowE}
/-- The row of a position. -/
def rowV (n : Nat) (o : Option (Nat × Nat)) : Value := if n = 0 then .tuple #[.int .i64 0, .bool false] else match o with
  | some (i, _) => .tuple #[.int .i64 i, .bool true]
  | none => .tuple #[.int .i64 ((n : Int) - 1), .bool true]
theorem nil_rows {l : List RowE} (h : l.length = 0) : l = [] := List.eq_nil_of_length_eq_zero h
/-- A cell of a row, in numbers. -/
def atP (ps : List Int) (col : Int) : Int × Bool := match atV ps col with
  | .tuple #[.int _ a, .bool b] => (a, b)
  | _ => (0, false)
theorem atV_form (ps : List Int) (col : Int) : ∃ a b, atV ps col = .tuple #[.int .i64 a, .bool b] ∧ (b = false → a = 0) := by
  unfold atV lastV
  split
  · exact ⟨_, _, rfl, by simp⟩
  · split
    · exact ⟨_, _, rfl, by simp⟩
    · exact ⟨_, _, rfl, fun _ => rfl⟩
/-- The position of a cell, in a row that is shown. -/
def pointI (pl : List (List Int)) (height start row col : Int) : Int :=
  if pl.length = 0 then 0 else
    match pl[(clampI row (clampI start 0 ((pl.length : Int) - 1)) (min ((pl.length : Int) - 1) (clampI start 0 ((pl.length : Int) - 1) + clampI height 1 200 - 1))).toNat]? with
    | some ps => (atP ps col).1
    | none => 0
set_option maxRecDepth 100000 in
set_option maxHeartbeats 1000000 in
theorem row_any (c : Nat) (pos : Int) (h : RowsAt w A l) (hl : l.length ≤ 1000000) (hb : ∀ e ∈ l, e.ps.length ≤ 1000000) :
    Calls Try.prog 22 #[.slice A l.length c, .int .i64 pos] w fun e w' => e = .returned (rowV l.length (whereO pos (l.map (·.ps)))) ∧ Below w.heap.size w w' := by
  by_cases h0 : l.length = 0
  · obtain rfl := nil_rows h0
    go_enter Try.func22, Try.ntmps22
    go_wp2_with fail
    go_ret2
    exact ⟨rfl, Below.refl _ _⟩
  · have hnz : ((l.length : Int) == 0) = false := by simp; intro e; exact h0 (by rw [e]; rfl)
    have hw := where_any c pos h hl hb
    unfold WherePost at hw
    unfold rowV
    rw [if_neg h0]
    clear h h0 hb
    cases hq : whereO pos (l.map (·.ps)) with
    | none =>
      rw [hq] at hw
      have HW := Lib.hid hw
      clear hq hw
      go_enter Try.func22, Try.ntmps22
      go_wp2_with fail
      refine HW.out.mono ?_
      rintro e w' ⟨rfl, hb⟩
      simp only [whereV]
      go_wp2_with fail
      go_ret2
      exact ⟨rfl, hb⟩
    | some x =>
      rw [hq] at hw
      have HW := Lib.hid hw
      clear hq hw
      obtain ⟨i, k⟩ := x
      go_enter Try.func22, Try.ntmps22
      go_wp2_with fail
      refine HW.out.mono ?_
      rintro e w' ⟨rfl, hb⟩
      simp only [whereV]
      go_wp2_with fail
      go_ret2
      exact ⟨rfl, hb⟩
set_option maxRecDepth 100000 in
set_option maxHeartbeats 1000000 in
theorem rowR_any (c : Nat) (pos : Int) (h : RowsAt w A l) (hl : l.length ≤ 1000000) (hb : ∀ e ∈ l, e.ps.length ≤ 1000000) :
    Calls Try.prog 23 #[.slice A l.length c, .int .i64 pos] w fun e w' => e = .returned (rowV l.length (whereO pos (l.map (·.ps)))) ∧ Below w.heap.size w w' := by
  by_cases h0 : l.length = 0
  · obtain rfl := nil_rows h0
    go_enter Try.func23, Try.ntmps23
    go_wp2_with fail
    go_ret2
    exact ⟨rfl, Below.refl _ _⟩
  · have hnz : ((l.length : Int) == 0) = false := by simp; intro e; exact h0 (by rw [e]; rfl)
    have hw := whereR_any c pos h hl hb
    unfold WherePost at hw
    unfold rowV
    rw [if_neg h0]
    clear h h0 hb
    cases hq : whereO pos (l.map (·.ps)) with
    | none =>
      rw [hq] at hw
      have HW := Lib.hid hw
      clear hq hw
      go_enter Try.func23, Try.ntmps23
      go_wp2_with fail
      refine HW.out.mono ?_
      rintro e w' ⟨rfl, hb⟩
      simp only [whereV]
      go_wp2_with fail
      go_ret2
      exact ⟨rfl, hb⟩
    | some x =>
      rw [hq] at hw
      have HW := Lib.hid hw
      clear hq hw
      obtain ⟨i, k⟩ := x
      go_enter Try.func23, Try.ntmps23
      go_wp2_with fail
      refine HW.out.mono ?_
      rintro e w' ⟨rfl, hb⟩
      simp only [whereV]
      go_wp2_with fail
      go_ret2
      exact ⟨rfl, hb⟩
set_option maxRecDepth 100000 in
set_option maxHeartbeats 1000000 in
theorem point_any (c : Nat) (height start row col : Int) (h : RowsAt w A l) (hl : l.length ≤ 1000) (hb : ∀ e ∈ l, e.ps.length ≤ 1000000) :
    Calls Try.prog 26 #[.slice A l.length c, .int .i64 height, .int .i64 start, .int .i64 row, .int .i64 col] w fun e w' => e = .returned (.int .i64 (pointI (l.map (·.ps)) height start row col)) ∧ Below w.heap.size w w' := by
  by_cases h0 : l.length = 0
  · obtain rfl := nil_rows h0
    have HP : Hid (pointI (([] : List RowE).map (·.ps)) height start row col = 0) := Lib.hid rfl
    go_enter Try.func26, Try.ntmps26
    go_wp2_with fail
    go_ret
    exact ⟨by rw [HP.out]; rfl, Below.refl _ _⟩
  · have hnz : ((l.length : Int) == 0) = false := by simp; intro e; exact h0 (by rw [e]; rfl)
    obtain ⟨s, hs⟩ : ∃ s : Int, clampI start 0 ((l.length : Int) - 1) = s := ⟨_, rfl⟩
    obtain ⟨hh, hhe⟩ : ∃ s : Int, clampI height 1 200 = s := ⟨_, rfl⟩
    obtain ⟨m, hm⟩ : ∃ m : Int, min ((l.length : Int) - 1) (s + hh - 1) = m := ⟨_, rfl⟩
    obtain ⟨r, hr⟩ : ∃ r : Nat, clampI row s m = r := ⟨(clampI row s m).toNat, by simp only [clampI] at *; omega⟩
    have hs0 : 0 ≤ s ∧ s ≤ (l.length : Int) - 1 := by simp only [clampI] at *; omega
    have hh0 : 1 ≤ hh ∧ hh ≤ 200 := by simp only [clampI] at *; omega
    have hrl : r < l.length := by simp only [clampI] at *; omega
    obtain ⟨e, hx⟩ : ∃ e, l[r]? = some e := ⟨_, List.getElem?_eq_getElem hrl⟩
    have hbe := hb e (List.mem_of_getElem? hx)
    have hat := at_any c r col e h (by omega) hx hbe
    have hpt : pointI (l.map (·.ps)) height start row col = (atP e.ps col).1 := by
      unfold pointI
      rw [List.length_map, hs, hhe, hm, hr, if_neg h0, Int.toNat_natCast, List.getElem?_map, hx]; rfl
    rw [hpt]
    obtain ⟨p, q, hav, hp0⟩ := atV_form e.ps col
    have hpp : (atP e.ps col).1 = p := by unfold atP; rw [hav]; rfl
    rw [hpp]
    rw [hav] at hat
    have HAT := Lib.hid hat
    have HS := Lib.hid hs
    have HH := Lib.hid hhe
    have HM := Lib.hid hm
    have HR := Lib.hid hr
    have HP0 := Lib.hid hp0
    have x1 := hs0.1
    have x2 := hs0.2
    have x3 := hh0.1
    have x4 := hh0.2
    have y1 : IntKind.i64.wrap ((l.length : Int) - 1) = (l.length : Int) - 1 := IntWalk.i64_in _ (by omega)
    clear hat hs hhe hm hr hp0 hpp hav hpt hbe hx hb h h0 hs0 hh0 y1
    rcases Int.lt_or_le (s + hh - 1) ((l.length : Int) - 1) with hle | hle
    · have hmm : m = s + hh - 1 := by have := HM.out; omega
      subst hmm
      clear HM
      go_enter Try.func26, Try.ntmps26
      go_wp2_with fail
      refine (clamp_any start 0 ((l.length : Int) - 1) w).mono ?_
      rintro e w' ⟨rfl, rfl⟩
      rw [HS.out]
      go_wp2_with fail
      refine (clamp_any height 1 200 w).mono ?_
      rintro e w' ⟨rfl, rfl⟩
      rw [HH.out]
      go_wp2_with fail
      refine (clamp_any row s _ w).mono ?_
      rintro e w' ⟨rfl, rfl⟩
      rw [HR.out]
      go_wp2_with fail
      refine HAT.out.mono ?_
      rintro e w' ⟨rfl, hb⟩
      go_wp2_with fail
      go_ret
      exact ⟨rfl, hb⟩
    · have hmm : m = (l.length : Int) - 1 := by have := HM.out; omega
      subst hmm
      clear HM
      go_enter Try.func26, Try.ntmps26
      go_wp2_with fail
      refine (clamp_any start 0 ((l.length : Int) - 1) w).mono ?_
      rintro e w' ⟨rfl, rfl⟩
      rw [HS.out]
      go_wp2_with fail
      refine (clamp_any height 1 200 w).mono ?_
      rintro e w' ⟨rfl, rfl⟩
      rw [HH.out]
      go_wp2_with fail
      refine (clamp_any row s _ w).mono ?_
      rintro e w' ⟨rfl, rfl⟩
      rw [HR.out]
      go_wp2_with fail
      refine HAT.out.mono ?_
      rintro e w' ⟨rfl, hb⟩
      go_wp2_with fail
      go_ret
      exact ⟨rfl, hb⟩
set_option maxRecDepth 100000 in
set_option maxHeartbeats 1000000 in
theorem pointR_any (c : Nat) (height start row col : Int) (h : RowsAt w A l) (hl : l.length ≤ 1000) (hb : ∀ e ∈ l, e.ps.length ≤ 1000000) :
    Calls Try.prog 27 #[.slice A l.length c, .int .i64 height, .int .i64 start, .int .i64 row, .int .i64 col] w fun e w' => e = .returned (.int .i64 (pointI (l.map (·.ps)) height start row col)) ∧ Below w.heap.size w w' := by
  by_cases h0 : l.length = 0
  · obtain rfl := nil_rows h0
    have HP : Hid (pointI (([] : List RowE).map (·.ps)) height start row col = 0) := Lib.hid rfl
    go_enter Try.func27, Try.ntmps27
    go_wp2_with fail
    go_ret
    exact ⟨by rw [HP.out]; rfl, Below.refl _ _⟩
  · have hnz : ((l.length : Int) == 0) = false := by simp; intro e; exact h0 (by rw [e]; rfl)
    obtain ⟨s, hs⟩ : ∃ s : Int, clampI start 0 ((l.length : Int) - 1) = s := ⟨_, rfl⟩
    obtain ⟨hh, hhe⟩ : ∃ s : Int, clampI height 1 200 = s := ⟨_, rfl⟩
    obtain ⟨m, hm⟩ : ∃ m : Int, min ((l.length : Int) - 1) (s + hh - 1) = m := ⟨_, rfl⟩
    obtain ⟨r, hr⟩ : ∃ r : Nat, clampI row s m = r := ⟨(clampI row s m).toNat, by simp only [clampI] at *; omega⟩
    have hs0 : 0 ≤ s ∧ s ≤ (l.length : Int) - 1 := by simp only [clampI] at *; omega
    have hh0 : 1 ≤ hh ∧ hh ≤ 200 := by simp only [clampI] at *; omega
    have hrl : r < l.length := by simp only [clampI] at *; omega
    obtain ⟨e, hx⟩ : ∃ e, l[r]? = some e := ⟨_, List.getElem?_eq_getElem hrl⟩
    have hbe := hb e (List.mem_of_getElem? hx)
    have hat := atR_any c r col e h (by omega) hx hbe
    have hpt : pointI (l.map (·.ps)) height start row col = (atP e.ps col).1 := by
      unfold pointI
      rw [List.length_map, hs, hhe, hm, hr, if_neg h0, Int.toNat_natCast, List.getElem?_map, hx]; rfl
    rw [hpt]
    obtain ⟨p, q, hav, hp0⟩ := atV_form e.ps col
    have hpp : (atP e.ps col).1 = p := by unfold atP; rw [hav]; rfl
    rw [hpp]
    rw [hav] at hat
    have HAT := Lib.hid hat
    have HS := Lib.hid hs
    have HH := Lib.hid hhe
    have HM := Lib.hid hm
    have HR := Lib.hid hr
    have HP0 := Lib.hid hp0
    have x1 := hs0.1
    have x2 := hs0.2
    have x3 := hh0.1
    have x4 := hh0.2
    have y1 : IntKind.i64.wrap ((l.length : Int) - 1) = (l.length : Int) - 1 := IntWalk.i64_in _ (by omega)
    clear hat hs hhe hm hr hp0 hpp hav hpt hbe hx hb h h0 hs0 hh0 y1
    rcases Int.lt_or_le (s + hh - 1) ((l.length : Int) - 1) with hle | hle
    · have hmm : m = s + hh - 1 := by have := HM.out; omega
      subst hmm
      clear HM
      go_enter Try.func27, Try.ntmps27
      go_wp2_with fail
      refine (clampR_any start 0 ((l.length : Int) - 1) w).mono ?_
      rintro e w' ⟨rfl, rfl⟩
      rw [HS.out]
      go_wp2_with fail
      refine (clampR_any height 1 200 w).mono ?_
      rintro e w' ⟨rfl, rfl⟩
      rw [HH.out]
      go_wp2_with fail
      refine (clampR_any row s _ w).mono ?_
      rintro e w' ⟨rfl, rfl⟩
      rw [HR.out]
      go_wp2_with fail
      refine HAT.out.mono ?_
      rintro e w' ⟨rfl, hb⟩
      cases q
      · have hp0 := HP0.out rfl
        subst hp0
        go_wp2_with fail
        go_ret
        exact ⟨rfl, hb⟩
      · go_wp2_with fail
        go_ret
        exact ⟨rfl, hb⟩
    · have hmm : m = (l.length : Int) - 1 := by have := HM.out; omega
      subst hmm
      clear HM
      go_enter Try.func27, Try.ntmps27
      go_wp2_with fail
      refine (clampR_any start 0 ((l.length : Int) - 1) w).mono ?_
      rintro e w' ⟨rfl, rfl⟩
      rw [HS.out]
      go_wp2_with fail
      refine (clampR_any height 1 200 w).mono ?_
      rintro e w' ⟨rfl, rfl⟩
      rw [HH.out]
      go_wp2_with fail
      refine (clampR_any row s _ w).mono ?_
      rintro e w' ⟨rfl, rfl⟩
      rw [HR.out]
      go_wp2_with fail
      refine HAT.out.mono ?_
      rintro e w' ⟨rfl, hb⟩
      cases q
      · have hp0 := HP0.out rfl
        subst hp0
        go_wp2_with fail
        go_ret
        exact ⟨rfl, hb⟩
      · go_wp2_with fail
        go_ret
        exact ⟨rfl, hb⟩
end
end Go.Proofs.Ytnpamchdflfboaa
