/- Times; a string too long for a ring; Same at strings and ints (printed by genKnA.py). -/
import Derived.Test.YtnbccoelbfgmgaaGreatDoorRkL
import Derived.Test.YtnbccoelbfgmgaaGreatDoorZ18
import Derived.Test.YtnbccoelbfgmgaaGreatDoorZ01
import Derived.BigQuiet
namespace Go.Proofs.YtnbccoelbfgmgaaGreatDoor
open Go.RowKit Go.Lib
set_option linter.unusedVariables false
set_option linter.unusedSimpArgs false
section
variable {w w' : World} {b most at_ : Nat} {L : List ByteArray}
set_option maxRecDepth 100000 in
set_option maxHeartbeats 1000000 in
theorem Ring.app_long {N : Nat} (h : Ring w b L most at_) (hn : 0 < L.length) (s : ByteArray) (ahead : Bool) (hs : s.size ≤ 1000000) (hsx : (L.getD 0 ByteArray.empty).size ≤ 1000000) (hbig : (65536 : Int) < (rlenG s : Int) + (rlenG (L.getD 0 ByteArray.empty) : Int)) (hT : Tabs N w) (hN : N ≤ b) (hv : vld s = true) :
    Calls Tryz.prog 8 #[.pointer (some ⟨b, 0, none⟩), .string s, .bool ahead] w (RingPost w b L most at_ 4) := by
  obtain ⟨ts, fi, h, e⟩ := h
  have hV := valid_any s w (by omega) hT
  rw [hv] at hV
  have HV := Lib.hid hV
  have c61 := h.c61
  have hnz : ((L.length : Int) == 0) = false := by simp; intro e; subst e; simp at hn
  have hx0 := h.str 0
  rw [ringT_L e hn, Nat.add_zero, Nat.mod_eq_of_lt h.hfi] at hx0
  obtain ⟨x, hx⟩ : ∃ x, L.getD 0 ByteArray.empty = x := ⟨_, rfl⟩
  rw [hx] at hsx hbig hx0
  have HX := Lib.hid hx0
  have HE := Lib.hid e
  have HBIG := Lib.hid hbig
  clear hV hv hx0 hx e hbig
  go_enter Tryz.func8, Tryz.ntmps8
  go_wp2_with fail
  refine (rnone_no h).mono ?_
  rintro e w' ⟨rfl, rfl⟩
  go_wp2_with fail
  refine HV.out.mono ?_
  rintro e w1 ⟨rfl, hb⟩
  go_wp2_with fail
  have h1 := h.up hb
  have C60 : ∀ x : UpW w1.heap.size w1, x.w.cell? ⟨b, 60, none⟩ = some (.int .i64 fi) := fun x => (x.up.cell (p := ⟨b, 60, none⟩) h1.lt).trans h1.c60
  have q0 : (0 : Int) ≤ fi := by omega
  have q1 : (fi : Int) < 60 := by have := h1.hfi; omega
  refine wp_region_mix w1.heap.size 9 [] [0, 1, 2, 3, 4, 5, 6, 7, 8] (by kernel_rfl) (fun c d v a w h => by cases d <;> exact h) (by kernel_rfl) ?_
  simp only [wpMix, pk_nil, pk_cons, pushAt_zero, pushAt_succ, List.drop_succ_cons, List.drop_zero]
  repeat (go_big_quiet_step (fail))
  refine wpQuiet_nil ?_
  have h2 : RingAt w1.drew b ts fi L.length most at_ := h1.kept rfl
  have hb2 : Below w.heap.size w w1.drew := hb.drew
  have hT2 := hT.up hb2
  clear C60 h1 hb hT
  go_wp2_with fail
  generalize w1.drew = W1 at *
  have DX : ∀ y : UpW W1.heap.size W1, y.w.cell? ⟨b, fi, none⟩ = some (.string x) := fun y => (y.up.cell (p := ⟨b, fi, none⟩) h2.lt).trans (h2.tx fi x HX.out)
  have hx1 : x.size ≤ 1000000000 := by omega
  have hs1 : s.size ≤ 1000000000 := by omega
  have hl1 := rlenG_le s
  have hl2 := rlenG_le x
  have hle := HBIG.out
  have hle2 : decide ((65536 : Int) < (rlenG s : Int) + (rlenG x : Int)) = true := decide_eq_true hle
  have w1 : IntKind.i64.wrap ((rlenG s : Int) + (rlenG x : Int)) = (rlenG s : Int) + (rlenG x : Int) := IntWalk.i64_in _ (by omega)
  have hT3 : Tabs N W1.drew := hT2.up (Below.refl _ _).drew
  refine wp_region_mix W1.heap.size 8 [([0, 2, 3, 4], 1), ([], 5)] [6, 7] (by kernel_rfl) (fun c d v a w h => by cases d <;> exact h) (by kernel_rfl) ?_
  simp only [wpMix, pk_nil, pk_cons, pushAt_zero, pushAt_succ, List.drop_succ_cons, List.drop_zero]
  repeat (go_big_quiet_step (fail))
  refine wpQuiet_nil ?_
  go_wp2_with fail
  refine (runesLen s _ hs1 hT3).mono ?_
  rintro e w2 ⟨rfl, hb3⟩
  have hb4 : Below W1.heap.size W1 w2 := (Below.refl _ _).drew.trans hb3
  go_wp2_with fail
  refine thenQ_normal ⟨⟨⟨_, hb4⟩, rfl⟩, ?_⟩
  refine wpQuiet_nil ?_
  go_wp2_with fail
  refine (runesLen x _ hx1 (hT3.up hb3)).mono ?_
  rintro e w3 ⟨rfl, hb5⟩
  have hb6 : Below W1.heap.size W1 w3 := up2 hb4 hb5
  go_wp2_with fail
  refine thenQ_normal ⟨⟨⟨_, hb6⟩, rfl⟩, ?_⟩
  repeat (go_big_quiet_step (fail))
  refine wpQuiet_nil ?_
  have h3 := h2.up hb6
  have hb7 : Below w.heap.size w w3 := up2 hb2 hb6
  clear DX hl1 hl2 hle w1
  go_wp2_with fail
  go_ret
  exact ⟨rfl, ⟨_, fi, h3, HE.out⟩, Only.of_below hb7⟩
end
section
variable {w : World} {A A' : Option Addr} {L : List ByteArray}
set_option maxRecDepth 100000 in
set_option maxHeartbeats 1000000 in
theorem sameS_true (c c' : Nat) (h : RSl encStr w A L) (h' : RSl encStr w A' L) (hl : L.length ≤ 1000000) :
    Calls Tryz.prog 23 #[.slice A L.length c, .slice A' L.length c'] w fun e w' => e = .returned (.bool true) ∧ Below w.heap.size w w' := by
  have hne : ((L.length : Int) != (L.length : Int)) = false := by simp
  go_enter Tryz.func23, Tryz.ntmps23
  go_wp2
  clear hne
  go_loopw [5] (fun vi wr => ∃ k : Nat, k ≤ L.length ∧ vi = .int .i64 k ∧ Below w.heap.size w wr) (fun vi _ => L.length - (intOf vi).toNat)
  case atStart => exact ⟨0, by omega, rfl, Below.refl _ _⟩
  case round =>
    obtain ⟨k, hk, rfl, hbel⟩ := hrel
    by_cases hlt : k < L.length
    · obtain ⟨s, hx⟩ : ∃ x, L[k]? = some x := ⟨_, List.getElem?_eq_getElem hlt⟩
      obtain ⟨g, o, rfl, hg, hc⟩ := (h.up hbel).at_ eltStr hx
      obtain ⟨g', o', rfl, hg', hc'⟩ := (h'.up hbel).at_ eltStr hx
      have c0 := hc 0 _ rfl
      have d0 := hc' 0 _ rfl
      simp only [Nat.mul_one, Nat.add_zero] at c0 d0
      have hlt' : (k : Int) < L.length := by omega
      clear hc hc' hx
      go_wp2
      go_quiet (fail)
      go_wp2
      go_roundw
      case rel => exact ⟨k + 1, by omega, by go_num, ⟨hbel.os, hbel.tape, hbel.output, hbel.size, hbel.block⟩⟩
      case measure => simp [intOf]; omega
    · have hkn : k = L.length := by omega
      subst hkn
      go_wp2
      go_ret
      exact ⟨rfl, hbel⟩

end
section
variable {w : World} {A A' : Option Addr} {L : List Int}
set_option maxRecDepth 100000 in
set_option maxHeartbeats 1000000 in
theorem sameI_true (c c' : Nat) (h : RSl encI w A L) (h' : RSl encI w A' L) (hl : L.length ≤ 1000000) :
    Calls Tryz.prog 25 #[.slice A L.length c, .slice A' L.length c'] w fun e w' => e = .returned (.bool true) ∧ Below w.heap.size w w' := by
  have hne : ((L.length : Int) != (L.length : Int)) = false := by simp
  go_enter Tryz.func25, Tryz.ntmps25
  go_wp2
  clear hne
  go_loopw [5] (fun vi wr => ∃ k : Nat, k ≤ L.length ∧ vi = .int .i64 k ∧ Below w.heap.size w wr) (fun vi _ => L.length - (intOf vi).toNat)
  case atStart => exact ⟨0, by omega, rfl, Below.refl _ _⟩
  case round =>
    obtain ⟨k, hk, rfl, hbel⟩ := hrel
    by_cases hlt : k < L.length
    · obtain ⟨s, hx⟩ : ∃ x, L[k]? = some x := ⟨_, List.getElem?_eq_getElem hlt⟩
      obtain ⟨g, o, rfl, hg, hc⟩ := (h.up hbel).at_ eltI hx
      obtain ⟨g', o', rfl, hg', hc'⟩ := (h'.up hbel).at_ eltI hx
      have c0 := hc 0 _ rfl
      have d0 := hc' 0 _ rfl
      simp only [Nat.mul_one, Nat.add_zero] at c0 d0
      have hlt' : (k : Int) < L.length := by omega
      clear hc hc' hx
      go_wp2
      go_quiet (fail)
      go_wp2
      go_roundw
      case rel => exact ⟨k + 1, by omega, by go_num, ⟨hbel.os, hbel.tape, hbel.output, hbel.size, hbel.block⟩⟩
      case measure => simp [intOf]; omega
    · have hkn : k = L.length := by omega
      subst hkn
      go_wp2
      go_ret
      exact ⟨rfl, hbel⟩

end
theorem repB_app (c : UInt8) (a b : Nat) : repB c a ++ repB c b = repB c (a + b) := by
  refine bytes_ext ?_
  rw [ByteArray.data_append, Array.toList_append]
  unfold repB
  simp
set_option maxRecDepth 100000 in
set_option maxHeartbeats 2000000 in
theorem times_ok (c : UInt8) (n : Nat) (hn : n ≤ 100000) (w : World) : Calls Tryz.prog 19 #[.string (repB c 1), .int .i64 n] w fun e w' => e = .returned (.string (repB c n)) ∧ w = w' := by
  go_enter Tryz.func19, Tryz.ntmps19
  go_wp2_with fail
  go_loopw [0, 1, 5] (fun va vb vc wr => ∃ m k o : Nat, va = .string (repB c m) ∧ vb = .int .i64 k ∧ vc = .string (repB c o) ∧ o + m * k = n ∧ (0 < k → m ≤ n) ∧ (m ≤ 2 * n + 1 ∧ k ≤ n) ∧ w = wr) (fun _ vb _ _ => (intOf vb).toNat)
  case atStart => exact ⟨1, n, 0, rfl, rfl, rfl, by omega, fun h => h, by omega, rfl⟩
  case round =>
    obtain ⟨m, k, o, rfl, rfl, rfl, hs, hm1, hm2, rfl⟩ := hrel
    have HS := Lib.hid hs
    have HM := Lib.hid (⟨hm1, hm2⟩ : _ ∧ _ ∧ _)
    clear hs hm1 hm2
    by_cases hk : 0 < k
    · have d1 : decide ((0 : Int) < (k : Int)) = true := decide_eq_true (by omega)
      have d2 : (0 < k) = True := eq_true hk
      have hq : (k : Int).tdiv 2 = ((k / 2 : Nat) : Int) := by rw [Int.tdiv_eq_ediv_of_nonneg (by omega)]; omega
      have z1 := repB_size c m
      have z2 := repB_size c o
      have hmn := HM.out.1 hk
      have hsum := HS.out
      have hon : o ≤ n := by omega
      have hk9 : k ≤ 100000 := by have := HM.out.2.2; omega
      have hdm := Nat.div_add_mod k 2
      have b1 : (repB c m).size ≤ 100000 := by omega
      have b2 : (repB c o).size ≤ 100000 := by omega
      have hmk : m * k = m * 2 * (k / 2) + m * (k % 2) := by conv => lhs; rw [← hdm, Nat.mul_add, ← Nat.mul_assoc]
      have HQ := Lib.hid hq
      by_cases h1 : k % 2 = 1
      · have t1 : (k : Int).tmod 2 = 1 := by rw [Int.tmod_eq_emod_of_nonneg (by omega)]; omega
        have hmk2 := hmk
        rw [h1, Nat.mul_one] at hmk2
        have HMK := Lib.hid hmk2
        clear hmk hmk2 hdm h1 z1 z2 hsum
        go_wp2_with fail
        all_goals (try (exfalso; omega))
        go_roundw
        case rel =>
          refine ⟨m + m, k / 2, o + m, by rw [repB_app], by go_num, by rw [repB_app], ?_, fun h => ?_, by have := HM.out.2.2; omega, trivial⟩
          · have := HS.out; have := HMK.out
            have e : (m + m) * (k / 2) = m * 2 * (k / 2) := by congr 1; omega
            omega
          · have := HS.out; have := HMK.out
            have e : (m + m) * 1 ≤ (m + m) * (k / 2) := Nat.mul_le_mul_left _ (by omega)
            have e2 : (m + m) * (k / 2) = m * 2 * (k / 2) := by congr 1; omega
            omega
        case measure =>
          have e9 := IntWalk.i64_in ((k : Int) / 2) (by omega)
          simp only [IntKind.wrap] at e9
          simp only [intOf]
          first | omega | (simp at e9 ⊢; omega)
      · have t1 : (k : Int).tmod 2 = 0 := by rw [Int.tmod_eq_emod_of_nonneg (by omega)]; omega
        have hmk2 := hmk
        rw [show k % 2 = 0 by omega, Nat.mul_zero, Nat.add_zero] at hmk2
        have HMK := Lib.hid hmk2
        clear hmk hmk2 hdm h1 z1 z2 hsum
        go_wp2_with fail
        all_goals (try (exfalso; omega))
        go_roundw
        case rel =>
          refine ⟨m + m, k / 2, o, by rw [repB_app], by go_num, rfl, ?_, fun h => ?_, by have := HM.out.2.2; omega, trivial⟩
          · have := HS.out; have := HMK.out
            have e : (m + m) * (k / 2) = m * 2 * (k / 2) := by congr 1; omega
            omega
          · have := HS.out; have := HMK.out
            have e : (m + m) * 1 ≤ (m + m) * (k / 2) := Nat.mul_le_mul_left _ (by omega)
            have e2 : (m + m) * (k / 2) = m * 2 * (k / 2) := by congr 1; omega
            omega
        case measure =>
          have e9 := IntWalk.i64_in ((k : Int) / 2) (by omega)
          simp only [IntKind.wrap] at e9
          simp only [intOf]
          first | omega | (simp at e9 ⊢; omega)
    · obtain rfl : k = 0 := by omega
      have d1 : decide ((0 : Int) < ((0 : Nat) : Int)) = false := by decide
      have := HS.out
      obtain rfl : o = n := by omega
      go_wp2_with fail
      go_ret
      exact ⟨rfl, rfl⟩
end Go.Proofs.YtnbccoelbfgmgaaGreatDoor
