/- Registers: slices.IndexFunc and ContainsFunc with the closure of kill.plain. -/
import Derived.Test.YtnbccoelbfgmgaaGreatDoorKgA
namespace Go.Proofs.YtnbccoelbfgmgaaGreatDoor
open Go.RowKit
set_option linter.unusedVariables false
set_option linter.unusedSimpArgs false
section
variable {w w' : World} {b N : Nat} {A : Option Addr} {L : List ByteArray}
/-- The index of the first string that is not valid, or -1. -/
def badI (L : List ByteArray) : Int := match L.findIdx? (fun s => !vld s) with | some k => k | none => -1
set_option maxRecDepth 100000 in
set_option maxHeartbeats 1000000 in
theorem index_any (h : RSl encStr w A L) (c : Nat) (hl : L.length ≤ 1000000) (hs : ∀ s ∈ L, s.size ≤ 1000000000) (hT : Tabs N w) :
    Calls Tryz.prog 148 #[.slice A L.length c, .func (.func 99) #[] #[]] w fun e w' => e = .returned (.int .i64 (badI L)) ∧ Below w.heap.size w w' := by
  have HW : Hid (∀ (s : ByteArray) (w1 : World), s ∈ L → Below w.heap.size w w1 → Calls Tryz.prog 99 #[.string s] w1 fun e w' => e = .returned (.bool (!vld s)) ∧ Below w1.heap.size w1 w') := Lib.hid fun s w1 hm hb => wrong_any s w1 (hs s hm) (hT.up hb)
  clear hs hT
  go_enter Tryz.func148, Tryz.ntmps148
  go_wp2_with fail
  go_loopw [8] (fun vi wr => ∃ k : Nat, k ≤ L.length ∧ vi = .int .i64 k ∧ (∀ j, j < k → ∀ x, L[j]? = some x → (!vld x) = false) ∧ Below w.heap.size w wr) (fun vi _ => L.length - (intOf vi).toNat)
  case atStart => exact ⟨0, by omega, rfl, fun j hj => by omega, Below.refl _ _⟩
  case round =>
    obtain ⟨k, hk, rfl, hno, hbel⟩ := hrel
    have HNO := Lib.hid hno
    clear hno
    by_cases hlt : k < L.length
    · obtain ⟨z, hx⟩ : ∃ x, L[k]? = some x := ⟨_, List.getElem?_eq_getElem hlt⟩
      obtain ⟨g, o, hAe, hg, hcg⟩ := (h.up hbel).at_ eltStr hx
      have k0 := hcg 0 _ rfl
      simp only [Nat.mul_one, Nat.add_zero] at k0
      have hz : L[k] = z := by rw [List.getElem?_eq_getElem hlt] at hx; exact Option.some.inj hx
      have M := HW.out z wr (List.mem_of_getElem? hx) hbel
      have HX := Lib.hid hx
      have HZ := Lib.hid hz
      have hlt' : (k : Int) < L.length := by omega
      subst hAe
      clear hx hz hcg
      cases hf : (!vld z) with
      | true =>
        rw [hf] at M
        have MM := Lib.hid M
        have HF := Lib.hid hf
        clear M hf
        go_wp2_with fail
        refine MM.out.mono ?_
        rintro e w' ⟨rfl, hb⟩
        go_wp2_with fail
        go_ret
        refine ⟨ret_int ?_, up2 hbel hb⟩
        unfold badI
        have : L.findIdx? (fun s => !vld s) = some k := by
          rw [List.findIdx?_eq_some_iff_getElem]
          exact ⟨hlt, by rw [HZ.out]; exact HF.out, fun j hj => by have := HNO.out j hj _ (List.getElem?_eq_getElem (by omega)); simpa using this⟩
        rw [this]
      | false =>
        rw [hf] at M
        have MM := Lib.hid M
        have HF := Lib.hid hf
        clear M hf
        go_wp2_with fail
        refine MM.out.mono ?_
        rintro e w' ⟨rfl, hb⟩
        go_wp2_with fail
        go_roundw
        case rel =>
          refine ⟨k + 1, by omega, by go_num, fun j hj x hxj => ?_, up2 hbel hb⟩
          rcases Nat.lt_or_ge j k with h1 | h1
          · exact HNO.out j h1 x hxj
          · obtain rfl : j = k := by omega
            rw [HX.out] at hxj; cases hxj; exact HF.out
        case measure => simp [intOf]; omega
    · have hkn : k = L.length := by omega
      subst hkn
      go_wp2_with fail
      go_ret
      refine ⟨ret_int ?_, hbel⟩
      unfold badI
      have : L.findIdx? (fun s => !vld s) = none := by
        rw [List.findIdx?_eq_none_iff]
        intro x hx
        obtain ⟨j, hj, he⟩ := List.getElem_of_mem hx
        exact HNO.out j hj x (by rw [List.getElem?_eq_getElem hj, he])
      rw [this]
theorem badI_ge (L : List ByteArray) : decide ((0 : Int) ≤ badI L) = L.any (fun s => !vld s) := by
  unfold badI
  cases h : L.findIdx? (fun s => !vld s) with
  | some k =>
    obtain ⟨hk, hp, _⟩ := List.findIdx?_eq_some_iff_getElem.1 h
    rw [decide_eq_true (by simp), eq_comm, List.any_eq_true]
    exact ⟨_, List.getElem_mem hk, hp⟩
  | none =>
    rw [List.findIdx?_eq_none_iff] at h
    rw [decide_eq_false (by simp), eq_comm, List.any_eq_false]
    intro x hx; simpa using h x hx
set_option maxRecDepth 100000 in
set_option maxHeartbeats 1000000 in
theorem contains_any (h : RSl encStr w A L) (c : Nat) (hl : L.length ≤ 1000000) (hs : ∀ s ∈ L, s.size ≤ 1000000000) (hT : Tabs N w) :
    Calls Tryz.prog 100 #[.slice A L.length c, .func (.func 99) #[] #[]] w fun e w' => e = .returned (.bool (L.any (fun s => !vld s))) ∧ Below w.heap.size w w' := by
  have HI := Lib.hid (index_any h c hl hs hT)
  have HB := Lib.hid (badI_ge L)
  generalize badI L = z at *
  clear h hs hT
  go_enter Tryz.func100, Tryz.ntmps100
  go_wp2_with fail
  refine HI.out.mono ?_
  rintro e w' ⟨rfl, hb⟩
  go_wp2_with fail
  go_ret
  exact ⟨ret_bool HB.out, hb⟩
end
end Go.Proofs.YtnbccoelbfgmgaaGreatDoor
