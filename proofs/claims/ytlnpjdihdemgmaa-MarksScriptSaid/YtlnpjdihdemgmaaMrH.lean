/- copyistlaw16.does, copyistkit.Same at ints. -/
import Derived.Test.YtlnpjdihdemgmaaMrG
namespace Go.Proofs.Ytlnpjdihdemgmaa
open Go.RowKit
set_option linter.unusedVariables false
set_option maxRecDepth 100000 in
set_option maxHeartbeats 1000000 in
theorem sameI_true {w : World} {A A' : Option Addr} {xs : List Int} (c c' : Nat) (h : RSl encI w A xs) (h' : RSl encI w A' xs) (hl : xs.length ≤ 1000000) :
    Calls Try.prog 31 #[.slice A xs.length c, .slice A' xs.length c'] w fun e w' => e = .returned (.bool true) ∧ Below w.heap.size w w' := by
  have hne : ((xs.length : Int) != (xs.length : Int)) = false := by simp
  go_enter Try.func31, Try.ntmps31
  go_wp2
  clear hne
  go_loopw [5] (fun vi wr => ∃ k : Nat, k ≤ xs.length ∧ vi = .int .i64 k ∧ Below w.heap.size w wr) (fun vi _ => xs.length - (intOf vi).toNat)
  case atStart => exact ⟨0, by omega, rfl, Below.refl _ _⟩
  case round =>
    obtain ⟨k, hk, rfl, hbel⟩ := hrel
    by_cases hlt : k < xs.length
    · obtain ⟨x, hx⟩ : ∃ x, xs[k]? = some x := ⟨_, List.getElem?_eq_getElem hlt⟩
      obtain ⟨g, o, rfl, hg, hc⟩ := (h.up hbel).at_ eltI hx
      obtain ⟨g', o', rfl, hg', hc'⟩ := (h'.up hbel).at_ eltI hx
      have c0 := hc 0 _ rfl
      have d0 := hc' 0 _ rfl
      rw [Nat.mul_one, Nat.add_zero] at c0 d0
      have hlt' : (k : Int) < xs.length := by omega
      clear hc hc' hx
      go_wp2
      go_quiet (fail)
      go_wp2
      go_roundw
      case rel => exact ⟨k + 1, by omega, by go_num, ⟨hbel.os, hbel.tape, hbel.output, hbel.size, hbel.block⟩⟩
      case measure => simp [intOf]; omega
    · have hkn : k = xs.length := by omega
      subst hkn
      go_wp2
      go_ret
      exact ⟨rfl, hbel⟩
variable {B bo : Nat} {v : Value} {m : List (Int × Mk)} {n : Int} {w w' : World}

set_option maxRecDepth 100000 in
set_option maxHeartbeats 4000000 in
theorem does_any (h : RefAt B w bo v m n) (hnd : (m.map (·.1)).Nodup) (hat : ∀ p ∈ m, 1 ≤ p.2.1 ∧ p.2.1 ≤ 1099511627776) (a : Act6) (hn0 : 0 ≤ n) (hn1 : n ≤ 1000000000) (hl : m.length ≤ 1000000) : Calls Try.prog 26 #[.pointer (some ⟨bo, 0, none⟩), actV a] w (RPost2 B w bo (doR m n a)) := by
  have HND := Lib.hid hnd
  have HAT := Lib.hid hat
  clear hnd hat
  have hB := below1 w (.cells #[.int .i64 a.kind, .int .i64 a.id, .int .i64 a.at_, .int .i64 a.to, .int .i64 a.n, .bool a.on] 32)
  have h1 := h.up hB
  obtain ⟨p0, p1⟩ := pick_pos a.kind 8 (by omega)
  have hr := ret0 m n a
  obtain ⟨ki, id, at_, to, nn, on⟩ := a
  dsimp only at *
  have hcase : pickI ki 8 = 0 ∨ pickI ki 8 = 1 ∨ pickI ki 8 = 2 ∨ pickI ki 8 = 3 ∨ pickI ki 8 = 4 ∨ pickI ki 8 = 5 ∨ pickI ki 8 = 6 ∨ pickI ki 8 = 7 := by omega
  clear p0 p1
  rcases hcase with hk | hk | hk | hk | hk | hk | hk | hk
  · have e : doR m n ⟨ki, id, at_, to, nn, on⟩ = addR m n at_ on := by simp [doR, hk]
    rw [e]
    clear hr
    skip
    clear e
    go_enter Try.func26, Try.ntmps26
    go_wp2_with (go_at_call 12; refine (pick_any _ _ _ (by omega) (by omega)).mono ?_; rintro e w' ⟨rfl, rfl⟩)
    refine (radd_all h1 at_ on hn0 hn1 hl).mono ?_
    rintro e w2 ⟨rfl, v2, h2, ho⟩
    go_wp2
    go_ret2
    exact ⟨rfl, v2, h2, (Only.of_below hB).trans ho⟩
  · have e : doR m n ⟨ki, id, at_, to, nn, on⟩ = addR m n at_ on := by simp [doR, hk]
    rw [e]
    clear hr
    skip
    clear e
    go_enter Try.func26, Try.ntmps26
    go_wp2_with (go_at_call 12; refine (pick_any _ _ _ (by omega) (by omega)).mono ?_; rintro e w' ⟨rfl, rfl⟩)
    refine (radd_all h1 at_ on hn0 hn1 hl).mono ?_
    rintro e w2 ⟨rfl, v2, h2, ho⟩
    go_wp2
    go_ret2
    exact ⟨rfl, v2, h2, (Only.of_below hB).trans ho⟩
  · have e : doR m n ⟨ki, id, at_, to, nn, on⟩ = dropR m n id := by simp [doR, hk]
    rw [e] at hr ⊢
    have hr0 := hr (by omega)
    clear hr
    clear e
    go_enter Try.func26, Try.ntmps26
    go_wp2_with (go_at_call 12; refine (pick_any _ _ _ (by omega) (by omega)).mono ?_; rintro e w' ⟨rfl, rfl⟩)
    refine (rdrop_all h1 HND.out id hl).mono ?_
    rintro e w2 ⟨rfl, v2, h2, ho⟩
    have HR := Lib.hid hr0
    clear hr0
    go_wp2
    go_ret2
    exact ⟨by rw [HR.out]; rfl, v2, h2, (Only.of_below hB).trans ho⟩
  · have e : doR m n ⟨ki, id, at_, to, nn, on⟩ = moveR m n id at_ := by simp [doR, hk]
    rw [e] at hr ⊢
    have hr0 := hr (by omega)
    clear hr
    clear e
    go_enter Try.func26, Try.ntmps26
    go_wp2_with (go_at_call 12; refine (pick_any _ _ _ (by omega) (by omega)).mono ?_; rintro e w' ⟨rfl, rfl⟩)
    refine (rmove_all h1 HND.out id at_ hl).mono ?_
    rintro e w2 ⟨rfl, v2, h2, ho⟩
    have HR := Lib.hid hr0
    clear hr0
    go_wp2
    go_ret2
    exact ⟨by rw [HR.out]; rfl, v2, h2, (Only.of_below hB).trans ho⟩
  · have e : doR m n ⟨ki, id, at_, to, nn, on⟩ = setR m n id on := by simp [doR, hk]
    rw [e] at hr ⊢
    have hr0 := hr (by omega)
    clear hr
    clear e
    go_enter Try.func26, Try.ntmps26
    go_wp2_with (go_at_call 12; refine (pick_any _ _ _ (by omega) (by omega)).mono ?_; rintro e w' ⟨rfl, rfl⟩)
    refine (rset_all h1 HND.out id on hl).mono ?_
    rintro e w2 ⟨rfl, v2, h2, ho⟩
    have HR := Lib.hid hr0
    clear hr0
    go_wp2
    go_ret2
    exact ⟨by rw [HR.out]; rfl, v2, h2, (Only.of_below hB).trans ho⟩
  · have e : doR m n ⟨ki, id, at_, to, nn, on⟩ = insR m n at_ nn on := by simp [doR, hk]
    rw [e] at hr ⊢
    have hr0 := hr (by omega)
    clear hr
    clear e
    go_enter Try.func26, Try.ntmps26
    go_wp2_with (go_at_call 12; refine (pick_any _ _ _ (by omega) (by omega)).mono ?_; rintro e w' ⟨rfl, rfl⟩)
    refine (rins_all h1 HAT.out at_ nn on hl).mono ?_
    rintro e w2 ⟨rfl, v2, h2, ho⟩
    have HR := Lib.hid hr0
    clear hr0
    go_wp2
    go_ret2
    exact ⟨by rw [HR.out]; rfl, v2, h2, (Only.of_below hB).trans ho⟩
  · have e : doR m n ⟨ki, id, at_, to, nn, on⟩ = insR m n at_ nn on := by simp [doR, hk]
    rw [e] at hr ⊢
    have hr0 := hr (by omega)
    clear hr
    clear e
    go_enter Try.func26, Try.ntmps26
    go_wp2_with (go_at_call 12; refine (pick_any _ _ _ (by omega) (by omega)).mono ?_; rintro e w' ⟨rfl, rfl⟩)
    refine (rins_all h1 HAT.out at_ nn on hl).mono ?_
    rintro e w2 ⟨rfl, v2, h2, ho⟩
    have HR := Lib.hid hr0
    clear hr0
    go_wp2
    go_ret2
    exact ⟨by rw [HR.out]; rfl, v2, h2, (Only.of_below hB).trans ho⟩
  · have e : doR m n ⟨ki, id, at_, to, nn, on⟩ = delR m n at_ to := by simp [doR, hk]
    rw [e] at hr ⊢
    have hr0 := hr (by omega)
    clear hr
    clear e
    go_enter Try.func26, Try.ntmps26
    go_wp2_with (go_at_call 12; refine (pick_any _ _ _ (by omega) (by omega)).mono ?_; rintro e w' ⟨rfl, rfl⟩)
    refine (rdel_all h1 HAT.out at_ to hl).mono ?_
    rintro e w2 ⟨rfl, v2, h2, ho⟩
    have HR := Lib.hid hr0
    clear hr0
    go_wp2
    go_ret2
    exact ⟨by rw [HR.out]; rfl, v2, h2, (Only.of_below hB).trans ho⟩
end Go.Proofs.Ytlnpjdihdemgmaa
