/- The iterator of package scroll (view.near): the contract of its closure. -/
import Derived.RangeFuncNested
import Derived.RangeFuncBound
import Derived.RangeFuncCalls
import Derived.RangeFuncLeaves
import Derived.RangeFuncFrom
import Derived.Shelf.Abstract
import Derived.Shelf.RegionOpen
import Derived.WalkKit
import Derived.OwnWalkIn
import Derived.TacticsInMore
import Derived.LoopNIn
import Derived.LoopIn
import Derived.Lib.Hide
import Derived.Test.YtnpamchdflfboaaScA
namespace Go.Proofs.Ytnpamchdflfboaa
open Go.RowKit Go.Shelf
set_option linter.unusedVariables false
attribute [local go_sem] Oper.semAt_some

abbrev RI (rows : Int) := { x : Int // 0 ≤ x ∧ x < rows }
def nearA (rows start : Int) (d : Nat) : List (RI rows) := if h : 0 ≤ start - d ∧ start - d < rows then [⟨start - d, h⟩] else []
def nearB (rows start : Int) (d : Nat) : List (RI rows) := if h : 0 < d ∧ 0 ≤ start + d ∧ start + d < rows then [⟨start + d, h.2⟩] else []
def nearTo (rows start : Int) : Nat → List (RI rows)
  | 0 => []
  | k + 1 => nearTo rows start k ++ nearA rows start k ++ nearB rows start k
theorem nearTo_length (rows start : Int) (k : Nat) : (nearTo rows start k).length ≤ 2 * k := by
  induction k with
  | zero => simp [nearTo]
  | succ k ih =>
    simp only [nearTo, List.length_append]
    have h1 : (nearA rows start k).length ≤ 1 := by unfold nearA; split <;> simp
    have h2 : (nearB rows start k).length ≤ 1 := by unfold nearB; split <;> simp
    omega
theorem nearA_length (rows start : Int) (k : Nat) : (nearA rows start k).length ≤ 1 := by unfold nearA; split <;> simp
theorem nearTo_prefix (rows start : Int) (k m : Nat) (h : k ≤ m) : nearTo rows start k <+: nearTo rows start m := by
  induction m with
  | zero => obtain rfl : k = 0 := by omega
            exact List.prefix_refl _
  | succ m ih =>
    by_cases e : k = m + 1
    · subst e; exact List.prefix_refl _
    · exact (ih (by omega)).trans (by simp only [nearTo, List.append_assoc]; exact List.prefix_append _ _)
theorem Below.grow {w w' : World} (h : Below w.heap.size w w') : w.grownBy w' none := ⟨h.os, h.tape, h.output, h.size, fun k hk _ => h.block k hk⟩

theorem wideCall {P : Program} {f : FuncId} {args : Array Value} {w : World} {R R' : Ending → World → Prop} {n m : Nat} (h : Calls P f args w R) (k : ∀ e w', R e w' → R' e w') :
    Fence.wide.fn f ∧ (Fence.wide.depth.isSome = true → 1 ≤ n) ∧ CallsIn Fence.wide m P f args w R' :=
  ⟨trivial, (fun h => by cases h), (callsIn_wide.2 h).mono k⟩

set_option maxRecDepth 100000 in
set_option maxHeartbeats 2000000 in
theorem near1_in (n l n₀ Bv Bs Bt : Nat) (rows height row margin start step : Int) (M : Nat) (h1 : 1 ≤ rows) (h2 : rows ≤ 100000) (hs0 : 0 ≤ start) (hs1 : start < rows) (hst : 1 ≤ step) (hM : (M : Int) = min step (rows - 1) + 1)
    (hv : Bv < n₀) (hs : Bs < n₀) (ht : Bt < n₀) (J Jx : List (RI rows) → World → Prop)
    (hY : ∀ pre (x : RI rows) W, J pre W → pre.length < 2 * M → YieldAt Fence.wide (n - 1) Try.prog l #[.int .i64 x.1] W fun e W' =>
      (e = .returned (.bool true) ∧ J (pre ++ [x]) W' ∧ Below n₀ W W') ∨ (e = .returned (.bool false) ∧ Jx (pre ++ [x]) W'))
    (W : World) (hJ : AbidesFrom W.heap.size J) (hn0 : n₀ ≤ W.heap.size)
    (c0 : W.cell? ⟨Bv, 0, none⟩ = some (.int .i64 rows)) (c1 : W.cell? ⟨Bv, 1, none⟩ = some (.int .i64 height)) (c2 : W.cell? ⟨Bv, 2, none⟩ = some (.int .i64 row)) (c3 : W.cell? ⟨Bv, 3, none⟩ = some (.int .i64 margin))
    (c4 : W.cell? ⟨Bs, 0, none⟩ = some (.int .i64 start)) (c5 : W.cell? ⟨Bt, 0, none⟩ = some (.int .i64 step)) (h0 : J [] W) :
    CallsIn Fence.wide n Try.prog 44 #[.func (.yield l) #[] #[], .pointer (some ⟨Bt, 0, none⟩), .pointer (some ⟨Bv, 0, none⟩), .pointer (some ⟨Bs, 0, none⟩)] W fun e W' => (∃ v, e = .returned v) ∧
      ((∃ ys, ys = nearTo rows start M ∧ J ys W') ∨ (∃ pre, pre <+: nearTo rows start M ∧ Jx pre W')) := by
  have HM := Lib.hid hM
  clear hM
  refine callsIn_of_wp Try.func44 rfl trivial ?_ rfl
  simp only [Try.ntmps44, List.size_toArray, List.length_cons, List.length_nil, Nat.reduceAdd, Nat.reduceSub, Array.replicate_succ, Array.replicate_zero, List.push_toArray, List.append_toArray, List.nil_append, List.cons_append]
  have hMa : (M : Int) ≤ step + 1 := by have := HM.out; omega
  have hMb : (M : Int) ≤ rows := by have := HM.out; omega
  have hMc : step ≤ rows - 1 → step + 1 ≤ (M : Int) := by have := HM.out; omega
  have hMd : rows - 1 < step → rows ≤ (M : Int) := by have := HM.out; omega
  gi_wp2
  all_goals
    gi_loopw [12] (fun i wr => ∃ k : Nat, k ≤ M ∧ i = .int .i64 k ∧ J (nearTo rows start k) wr ∧ Below n₀ W wr) (fun i _ => M - (intOf i).toNat)
    case atStart => exact ⟨0, Nat.zero_le _, rfl, h0, Below.refl _ _⟩
    case round =>
      obtain ⟨k, hk, rfl, hJs, hnx⟩ := hrel
      have hM1 : step + 1 ≤ (M : Int) ∨ rows ≤ (M : Int) := by omega
      by_cases hlt : k < M
      · have d0 := (hnx.cell (p := ⟨Bv, 0, none⟩) hv).trans c0
        have d1 := (hnx.cell (p := ⟨Bv, 1, none⟩) hv).trans c1
        have d2 := (hnx.cell (p := ⟨Bv, 2, none⟩) hv).trans c2
        have d3 := (hnx.cell (p := ⟨Bv, 3, none⟩) hv).trans c3
        have d4 := (hnx.cell (p := ⟨Bs, 0, none⟩) hs).trans c4
        have hsz := hnx.size
        have hBs : Bs < wr.heap.size := by omega
        have hBv : Bv < wr.heap.size := by omega
        have fin : ∀ w2, J (nearTo rows start k ++ nearA rows start k) w2 → Below n₀ W w2 → (w2.cell? ⟨Bv, 0, none⟩ = some (.int .i64 rows) ∧ w2.cell? ⟨Bv, 1, none⟩ = some (.int .i64 height) ∧ w2.cell? ⟨Bv, 2, none⟩ = some (.int .i64 row) ∧ w2.cell? ⟨Bv, 3, none⟩ = some (.int .i64 margin) ∧ w2.cell? ⟨Bs, 0, none⟩ = some (.int .i64 start)) := fun w2 _ hb =>
          ⟨(hb.cell (p := ⟨Bv, 0, none⟩) hv).trans c0, (hb.cell (p := ⟨Bv, 1, none⟩) hv).trans c1, (hb.cell (p := ⟨Bv, 2, none⟩) hv).trans c2, (hb.cell (p := ⟨Bv, 3, none⟩) hv).trans c3, (hb.cell (p := ⟨Bs, 0, none⟩) hs).trans c4⟩
        have FIN := Lib.hid fin
        clear fin c0 c1 c2 c3 c4 c5
        have hlen := nearTo_length rows start k
        have hpre := nearTo_prefix rows start (k + 1) M hlt
        have HP := Lib.hid hpre
        clear hpre
        by_cases hA : 0 ≤ start - k ∧ start - k < rows
        · have eA : nearA rows start k = [⟨start - k, hA⟩] := by simp only [nearA, dif_pos hA]
          have hh : hasI rows (start - k) = true := by simp [hasI]; omega
          have HA := Lib.hid eA
          clear eA
          gi_wp2_with fail
          refine wideCall (has_any rows height row margin (start - k) wr) ?_
          rintro e w1 ⟨rfl, hb1⟩
          have hJ1 : J (nearTo rows start k) w1 := hJ _ _ _ none hJs (Below.grow hb1) (by simp)
          have hnx1 : Below n₀ W w1 := hnx.trans (hb1.mono (by omega))
          have e4 := (hb1.cell (p := ⟨Bs, 0, none⟩) hBs).trans d4
          obtain ⟨fn, tmps, assign, body, hy, hR⟩ := hY _ ⟨start - k, hA⟩ w1 hJ1 (by omega)
          dsimp only at hy
          gi_wp2_with fail
          refine ⟨(fun h => by cases h), hR.mono ?_⟩
          clear hR hy
          rintro e w2 (⟨rfl, hJ2, hk2⟩ | ⟨rfl, hJx2⟩)
          · rw [← HA.out] at hJ2
            have hnx2 := hnx1.trans hk2
            clear hh d0 d1 d2 d3 d4 e4
            obtain ⟨f0, f1, f2, f3, f4⟩ := FIN.out w2 hJ2 hnx2
            have hsz2 := hnx2.size
            have hBs2 : Bs < w2.heap.size := by omega
            by_cases hk0 : 0 < k
            · by_cases hB : 0 ≤ start + k ∧ start + k < rows
              · have eB : nearB rows start k = [⟨start + k, hB⟩] := by simp only [nearB, dif_pos (And.intro hk0 hB)]
                have hh2 : hasI rows (start + k) = true := by simp [hasI]; omega
                have HB := Lib.hid eB
                clear eB
                gi_wp2_with fail
                refine wideCall (has_any rows height row margin (start + k) w2) ?_
                rintro e w3 ⟨rfl, hb3⟩
                have hJ3 : J (nearTo rows start k ++ nearA rows start k) w3 := hJ _ _ _ none hJ2 (Below.grow hb3) (by simp)
                have hnx3 : Below n₀ W w3 := hnx2.trans (hb3.mono (by omega))
                have e5 := (hb3.cell (p := ⟨Bs, 0, none⟩) hBs2).trans f4
                obtain ⟨fn, tmps, assign, body, hy, hR⟩ := hY _ ⟨start + k, hB⟩ w3 hJ3 (by have := nearA_length rows start k; simp only [List.length_append]; omega)
                dsimp only at hy
                gi_wp2_with fail
                refine ⟨(fun h => by cases h), hR.mono ?_⟩
                clear hR hy
                rintro e w4 (⟨rfl, hJ4, hk4⟩ | ⟨rfl, hJx4⟩)
                · rw [← HB.out] at hJ4
                  gi_wp2
                  go_roundw
                  case rel => exact ⟨k + 1, by omega, by go_num, by simp only [nearTo]; exact hJ4, hnx3.trans hk4⟩
                  case measure => simp [intOf]; omega
                · gi_wp2
                  refine bodyPost_ret (results_none rfl _ _ _) rfl ?_
                  refine ⟨⟨_, rfl⟩, .inr ⟨_, ?_, hJx4⟩⟩
                  rw [← HB.out]
                  exact HP.out
              · have eB : nearB rows start k = [] := by simp only [nearB]; rw [dif_neg (by omega)]
                have hh2 : hasI rows (start + k) = false := by simp [hasI]; omega
                have HB := Lib.hid eB
                clear eB
                gi_wp2_with fail
                refine wideCall (has_any rows height row margin (start + k) w2) ?_
                rintro e w3 ⟨rfl, hb3⟩
                have hJ3 : J (nearTo rows start k ++ nearA rows start k) w3 := hJ _ _ _ none hJ2 (Below.grow hb3) (by simp)
                have hnx3 : Below n₀ W w3 := hnx2.trans (hb3.mono (by omega))
                gi_wp2
                refine ⟨(fun _ h => by cases h), ?_⟩
                gi_wp2
                go_roundw
                case rel => exact ⟨k + 1, by omega, by go_num, by simp only [nearTo, HB.out, List.append_nil]; exact hJ3, hnx3⟩
                case measure => simp [intOf]; omega
            · have eB : nearB rows start k = [] := by simp only [nearB]; rw [dif_neg (by omega)]
              have HB := Lib.hid eB
              clear eB
              have hk1 : k ≤ 0 := by omega
              gi_wp2
              refine ⟨trivial, ?_⟩
              gi_wp2
              try (refine ⟨(fun _ h => by cases h), ?_⟩; gi_wp2)
              go_roundw
              case rel => exact ⟨k + 1, by omega, by go_num, by simp only [nearTo, HB.out, List.append_nil]; exact hJ2, hnx2⟩
              case measure => simp [intOf]; omega
          · gi_wp2
            refine bodyPost_ret (results_none rfl _ _ _) rfl ?_
            refine ⟨⟨_, rfl⟩, .inr ⟨_, ?_, hJx2⟩⟩
            rw [← HA.out]
            exact List.IsPrefix.trans ⟨nearB rows start k, by simp [nearTo]⟩ HP.out
        · have eA : nearA rows start k = [] := by simp only [nearA, dif_neg hA]
          have hh : hasI rows (start - k) = false := by simp [hasI]; omega
          have HA := Lib.hid eA
          clear eA
          gi_wp2_with fail
          refine wideCall (has_any rows height row margin (start - k) wr) ?_
          rintro e w2 ⟨rfl, hb1⟩
          have hJ2 : J (nearTo rows start k ++ nearA rows start k) w2 := by rw [HA.out, List.append_nil]; exact hJ _ _ _ none hJs (Below.grow hb1) (by simp)
          have hnx2 : Below n₀ W w2 := hnx.trans (hb1.mono (by omega))
          clear d0 d1 d2 d3 d4
          gi_wp2_with fail
          refine ⟨(fun _ h => by cases h), ?_⟩
          obtain ⟨f0, f1, f2, f3, f4⟩ := FIN.out w2 hJ2 hnx2
          have hsz2 := hnx2.size
          have hBs2 : Bs < w2.heap.size := by omega
          by_cases hk0 : 0 < k
          · by_cases hB : 0 ≤ start + k ∧ start + k < rows
            · have eB : nearB rows start k = [⟨start + k, hB⟩] := by simp only [nearB, dif_pos (And.intro hk0 hB)]
              have hh2 : hasI rows (start + k) = true := by simp [hasI]; omega
              have HB := Lib.hid eB
              clear eB
              gi_wp2_with fail
              refine wideCall (has_any rows height row margin (start + k) w2) ?_
              rintro e w3 ⟨rfl, hb3⟩
              have hJ3 : J (nearTo rows start k ++ nearA rows start k) w3 := hJ _ _ _ none hJ2 (Below.grow hb3) (by simp)
              have hnx3 : Below n₀ W w3 := hnx2.trans (hb3.mono (by omega))
              have e5 := (hb3.cell (p := ⟨Bs, 0, none⟩) hBs2).trans f4
              obtain ⟨fn, tmps, assign, body, hy, hR⟩ := hY _ ⟨start + k, hB⟩ w3 hJ3 (by have := nearA_length rows start k; simp only [List.length_append]; omega)
              dsimp only at hy
              gi_wp2_with fail
              refine ⟨(fun h => by cases h), hR.mono ?_⟩
              clear hR hy
              rintro e w4 (⟨rfl, hJ4, hk4⟩ | ⟨rfl, hJx4⟩)
              · rw [← HB.out] at hJ4
                gi_wp2
                go_roundw
                case rel => exact ⟨k + 1, by omega, by go_num, by simp only [nearTo]; exact hJ4, hnx3.trans hk4⟩
                case measure => simp [intOf]; omega
              · gi_wp2
                refine bodyPost_ret (results_none rfl _ _ _) rfl ?_
                refine ⟨⟨_, rfl⟩, .inr ⟨_, ?_, hJx4⟩⟩
                rw [← HB.out]
                exact HP.out
            · have eB : nearB rows start k = [] := by simp only [nearB]; rw [dif_neg (by omega)]
              have hh2 : hasI rows (start + k) = false := by simp [hasI]; omega
              have HB := Lib.hid eB
              clear eB
              gi_wp2_with fail
              refine wideCall (has_any rows height row margin (start + k) w2) ?_
              rintro e w3 ⟨rfl, hb3⟩
              have hJ3 : J (nearTo rows start k ++ nearA rows start k) w3 := hJ _ _ _ none hJ2 (Below.grow hb3) (by simp)
              have hnx3 : Below n₀ W w3 := hnx2.trans (hb3.mono (by omega))
              gi_wp2
              refine ⟨(fun _ h => by cases h), ?_⟩
              gi_wp2
              go_roundw
              case rel => exact ⟨k + 1, by omega, by go_num, by simp only [nearTo, HB.out, List.append_nil]; exact hJ3, hnx3⟩
              case measure => simp [intOf]; omega
          · have eB : nearB rows start k = [] := by simp only [nearB]; rw [dif_neg (by omega)]
            have HB := Lib.hid eB
            clear eB
            have hk1 : k ≤ 0 := by omega
            gi_wp2
            refine ⟨trivial, ?_⟩
            gi_wp2
            try (refine ⟨(fun _ h => by cases h), ?_⟩; gi_wp2)
            go_roundw
            case rel => exact ⟨k + 1, by omega, by go_num, by simp only [nearTo, HB.out, List.append_nil]; exact hJ2, hnx2⟩
            case measure => simp [intOf]; omega
      · gi_wp2
        go_end0
        obtain rfl : k = M := by omega
        exact ⟨⟨_, rfl⟩, .inl ⟨_, rfl, hJs⟩⟩
end Go.Proofs.Ytnpamchdflfboaa
