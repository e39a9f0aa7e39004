/- layout.Where: its closures, slices.IndexFunc with them. -/
import Derived.Test.YtnpamchdflfboaaRwD
import Derived.Laws.EntriesVeiled
namespace Go.Proofs.Ytnpamchdflfboaa
open Go.RowKit
set_option linter.unusedVariables false
set_option linter.unusedSimpArgs false
section
variable {w w' : World} {A A' : Option Addr} {l l' : List RowE}
/-- A position that is sought: the same (false), or a later one (true). -/
def hit (b : Bool) (pos p : Int) : Bool := !(p == -1) && (if b = true then decide (pos < p) else p == pos)
/-- The function value that compares. -/
def cmpV (b : Bool) (bp : Nat) : Value := if b = true then .func (.func 46) #[] #[.pointer (some ⟨bp, 0, none⟩)] else .func (.func 45) #[] #[.pointer (some ⟨bp, 0, none⟩)]
set_option maxHeartbeats 400000 in
theorem m1_any (p pos : Int) (bp : Nat) (w : World) (hc : w.cell? ⟨bp, 0, none⟩ = some (.int .i64 pos)) : Calls Try.prog 45 #[.int .i64 p, .pointer (some ⟨bp, 0, none⟩)] w fun e w' => e = .returned (.bool (p == pos)) ∧ w = w' := by
  go_enter Try.func45, Try.ntmps45
  go_wp2
  go_ret
  exact ⟨rfl, rfl⟩
set_option maxHeartbeats 400000 in
theorem m2_any (p pos : Int) (bp : Nat) (w : World) (hc : w.cell? ⟨bp, 0, none⟩ = some (.int .i64 pos)) : Calls Try.prog 46 #[.int .i64 p, .pointer (some ⟨bp, 0, none⟩)] w fun e w' => e = .returned (.bool (decide (pos < p))) ∧ w = w' := by
  go_enter Try.func46, Try.ntmps46
  go_wp2
  go_ret
  exact ⟨rfl, rfl⟩
set_option maxHeartbeats 800000 in
theorem m3_any (b : Bool) (p pos : Int) (bp bm : Nat) (w : World) (hc : w.cell? ⟨bp, 0, none⟩ = some (.int .i64 pos)) (hm : w.cell? ⟨bm, 0, none⟩ = some (cmpV b bp)) : Calls Try.prog 48 #[.int .i64 p, .pointer (some ⟨bm, 0, none⟩)] w fun e w' => e = .returned (.bool (hit b pos p)) ∧ w = w' := by
  by_cases hp : p = -1
  · subst hp
    go_enter Try.func48, Try.ntmps48
    go_wp2
    go_ret
    exact ⟨rfl, rfl⟩
  · have hne : (p != -1) = true := by simpa using hp
    have hh : hit b pos p = (if b = true then decide (pos < p) else p == pos) := by unfold hit; simp [hp]
    rw [hh]
    have M1 := Lib.hid (m1_any p pos bp w hc)
    have M2 := Lib.hid (m2_any p pos bp w hc)
    clear hh hp hc
    cases b
    · have hm' : w.cell? ⟨bm, 0, none⟩ = some (.func (.func 45) #[] #[.pointer (some ⟨bp, 0, none⟩)]) := hm
      clear hm
      go_enter Try.func48, Try.ntmps48
      go_wp2_with fail
      refine M1.out.mono ?_
      rintro e w' ⟨rfl, rfl⟩
      go_wp2_with fail
      go_ret
      exact ⟨rfl, rfl⟩
    · have hm' : w.cell? ⟨bm, 0, none⟩ = some (.func (.func 46) #[] #[.pointer (some ⟨bp, 0, none⟩)]) := hm
      clear hm
      go_enter Try.func48, Try.ntmps48
      go_wp2_with fail
      refine M2.out.mono ?_
      rintro e w' ⟨rfl, rfl⟩
      go_wp2_with fail
      go_ret
      exact ⟨rfl, rfl⟩
/-- The index of a hit, or -1. -/
def idxI (f : Int → Bool) (xs : List Int) : Int := match xs.findIdx? f with | some k => k | none => -1
theorem findIdx_step {f : Int → Bool} {xs : List Int} {k : Nat} (hk : k < xs.length) (hno : ∀ j, j < k → ∀ x, xs[j]? = some x → f x = false) (hf : f xs[k] = true) : xs.findIdx? f = some k := by
  rw [List.findIdx?_eq_some_iff_getElem]
  exact ⟨hk, hf, fun j hj => by simpa using hno j hj _ (List.getElem?_eq_getElem (by omega))⟩
theorem findIdx_none {f : Int → Bool} {xs : List Int} (hno : ∀ j, j < xs.length → ∀ x, xs[j]? = some x → f x = false) : xs.findIdx? f = none := by
  rw [List.findIdx?_eq_none_iff]
  intro x hx
  obtain ⟨j, hj, he⟩ := List.getElem_of_mem hx
  exact hno j hj x (by rw [List.getElem?_eq_getElem hj, he])
set_option maxRecDepth 100000 in
set_option maxHeartbeats 1000000 in
theorem idx_any {xs : List Int} (b : Bool) (c : Nat) (pos : Int) (bp bm : Nat) (h : RSl encI w A xs) (hl : xs.length ≤ 1000000) (hc : w.cell? ⟨bp, 0, none⟩ = some (.int .i64 pos)) (hm : w.cell? ⟨bm, 0, none⟩ = some (cmpV b bp)) :
    Calls Try.prog 47 #[.slice A xs.length c, .func (.func 48) #[] #[.pointer (some ⟨bm, 0, none⟩)]] w fun e w' => e = .returned (.int .i64 (idxI (hit b pos) xs)) ∧ w = w' := by
  have M3 : Hid (∀ p, Calls Try.prog 48 #[.int .i64 p, .pointer (some ⟨bm, 0, none⟩)] w fun e w' => e = .returned (.bool (hit b pos p)) ∧ w = w') := Lib.hid fun p => m3_any b p pos bp bm w hc hm
  clear hc hm
  generalize hit b pos = f at *
  go_enter Try.func47, Try.ntmps47
  go_wp2_with fail
  go_loop [8] (fun vi => ∃ k : Nat, k ≤ xs.length ∧ vi = .int .i64 k ∧ ∀ j, j < k → ∀ x, xs[j]? = some x → f x = false) (fun vi => xs.length - (intOf vi).toNat)
  case atStart => exact ⟨0, by omega, rfl, fun j hj => by omega⟩
  case round =>
    obtain ⟨k, hk, rfl, hno⟩ := hrel
    have HNO := Lib.hid hno
    clear hno
    by_cases hlt : k < xs.length
    · obtain ⟨z, hx⟩ : ∃ x, xs[k]? = some x := ⟨_, List.getElem?_eq_getElem hlt⟩
      obtain ⟨g, o, rfl, hg, hcg⟩ := h.at_ eltI hx
      have k0 := hcg 0 _ rfl
      simp only [Nat.mul_one, Nat.add_zero] at k0
      have hz : xs[k] = z := by rw [List.getElem?_eq_getElem hlt] at hx; exact Option.some.inj hx
      have HX := Lib.hid hx
      have HZ := Lib.hid hz
      have hlt' : (k : Int) < xs.length := by omega
      clear hx hz hcg
      cases hf : f z with
      | true =>
        have M := M3.out z
        rw [hf] at M
        have MM := Lib.hid M
        have HF := Lib.hid hf
        clear M hf
        go_wp2_with fail
        refine MM.out.mono ?_
        rintro e w' ⟨rfl, rfl⟩
        go_wp2_with fail
        go_ret
        exact ⟨ret_int (by unfold idxI; rw [findIdx_step hlt HNO.out (by rw [HZ.out]; exact HF.out)]), rfl⟩
      | false =>
        have M := M3.out z
        rw [hf] at M
        have MM := Lib.hid M
        have HF := Lib.hid hf
        clear M hf
        go_wp2_with fail
        refine MM.out.mono ?_
        rintro e w' ⟨rfl, rfl⟩
        go_wp2_with fail
        go_round
        case rel =>
          refine ⟨k + 1, by omega, by go_num, fun j hj x hxj => ?_⟩
          rcases Nat.lt_or_ge j k with h1 | h1
          · exact HNO.out j h1 x hxj
          · obtain rfl : j = k := by omega
            rw [HX.out] at hxj; cases hxj; exact HF.out
        case measure => simp [intOf]; omega
    · have hkn : k = xs.length := by omega
      subst hkn
      go_wp2_with fail
      go_ret
      exact ⟨ret_int (by unfold idxI; rw [findIdx_none HNO.out]), rfl⟩
end
end Go.Proofs.Ytnpamchdflfboaa
