/- slices.Backward at overlays: the contract of its closure. -/
import Derived.Test.YthjkdeocdhdkaaaGreatOvAk
import Derived.RangeFuncNested
import Derived.RangeFuncBound
import Derived.RangeFuncCalls
import Derived.RangeFuncLeaves
import Derived.RangeFuncFrom
import Derived.Shelf.Abstract
import Derived.Shelf.RegionOpen
import Derived.OwnWalkIn
import Derived.TacticsInMore
import Derived.LoopNIn
import Derived.LoopIn
namespace Go.Proofs.YthjkdeocdhdkaaaGreat
open Go.RowKit Go.Shelf
set_option linter.unusedVariables false
set_option linter.unusedSimpArgs false
attribute [local go_sem] Oper.semAt_some
/-- The overlays seen so far. -/
abbrev seen {M : List OverE} (l : List (Nat × InL M)) : List OverE := l.map fun x => x.2.1
abbrev encB2 {M : List OverE} (x : Nat × InL M) : Array Value := #[.int .i64 x.1, .pointer (some ⟨x.2.1.g, 0, none⟩)]
set_option maxRecDepth 100000 in
set_option maxHeartbeats 2000000 in
theorem back_in (n l n₀ Bs : Nat) (M : List OverE) (A : Option Addr) (c : Nat) (hl : M.length ≤ 1000000)
    (hs : Bs < n₀) (J Jx : List (Nat × InL M) → World → Prop)
    (hY : ∀ pre (x : Nat × InL M) W, J pre W → pre.length < M.length → YieldAt Fence.wide (n - 1) Tryz.prog l (encB2 x) W fun e W' =>
      (e = .returned (.bool true) ∧ J (pre ++ [x]) W' ∧ Below n₀ W W') ∨ (e = .returned (.bool false) ∧ Jx (pre ++ [x]) W'))
    (W : World) (hn0 : n₀ ≤ W.heap.size)
    (c0 : W.cell? ⟨Bs, 0, none⟩ = some (.slice A M.length c)) (hps : ∀ W', Below n₀ W W' → RSl encT W' A M) (h0 : J [] W) :
    CallsIn Fence.wide n Tryz.prog 80 #[.func (.yield l) #[] #[], .pointer (some ⟨Bs, 0, none⟩)] W fun e W' => (∃ v, e = .returned v) ∧
      ((∃ ys, seen ys = M.reverse ∧ J ys W') ∨ (∃ pre, seen pre <+: M.reverse ∧ Jx pre W')) := by
  have HPS := Lib.hid hps
  clear hps
  refine callsIn_of_wp Tryz.func80 rfl trivial ?_ rfl
  simp only [Tryz.ntmps80, List.size_toArray, List.length_cons, List.length_nil, Nat.reduceAdd, Nat.reduceSub, Array.replicate_succ, Array.replicate_zero, List.push_toArray, List.append_toArray, List.nil_append, List.cons_append]
  gi_wp2
  gi_loopw [3] (fun i wr => ∃ (k : Nat) (pre : List (Nat × InL M)), k ≤ M.length ∧ i = .int .i64 ((M.length : Int) - 1 - k) ∧ seen pre = M.reverse.take k ∧ J pre wr ∧ Below n₀ W wr) (fun i _ => ((intOf i) + 1).toNat)
  case atStart => exact ⟨0, [], Nat.zero_le _, by simp, rfl, h0, Below.refl _ _⟩
  case round =>
    obtain ⟨k, pre, hk, rfl, hseen, hJs, hnx⟩ := hrel
    by_cases hlt : k < M.length
    · have d0 := (hnx.cell (p := ⟨Bs, 0, none⟩) hs).trans c0
      obtain ⟨m, hm⟩ : ∃ m : Nat, M.length - 1 - k = m := ⟨_, rfl⟩
      have hmi : (M.length : Int) - 1 - k = (m : Int) := by omega
      rw [hmi]
      obtain ⟨z, hz⟩ : ∃ z, M[m]? = some z := ⟨_, List.getElem?_eq_getElem (by omega)⟩
      have hzm := List.mem_of_getElem? hz
      obtain ⟨g, o, rfl, hg, hcg⟩ := (HPS.out wr hnx).at_ eltT hz
      have k0 := hcg 0 _ rfl
      simp only [Nat.mul_one, Nat.add_zero] at k0
      have hrev : M.reverse.take (k + 1) = M.reverse.take k ++ [z] := by
        rw [List.take_add_one, List.getElem?_reverse (by omega), hm, hz]; rfl
      have hlen : pre.length = k := by have := congrArg List.length hseen; simp at this; omega
      have hseen2 : seen (pre ++ [(m, (⟨z, hzm⟩ : InL M))]) = M.reverse.take (k + 1) := by
        rw [hrev, ← hseen]; simp [seen]
      have HSU := Lib.hid hseen2
      have hmlt : (m : Int) < M.length := by omega
      have hm0 : (0 : Int) ≤ m := by omega
      have HM := Lib.hid hm
      have HMI := Lib.hid hmi
      have hYk := hY pre (m, ⟨z, hzm⟩) wr hJs (by rw [hlen]; exact hlt)
      clear hseen2 hrev hm hmi hz hcg c0 hlen hY hseen
      have hd : decide ((0 : Int) ≤ (m : Int)) = true := decide_eq_true hm0
      obtain ⟨fn, tmps, assign, body, hy, hR⟩ := hYk
      dsimp only [encB2] at hy
      gi_wp2_with fail
      refine ⟨(fun h => by cases h), hR.mono ?_⟩
      clear hR hy
      rintro e w4 (⟨rfl, hJ4, hk4⟩ | ⟨rfl, hJx4⟩)
      · gi_wp2
        go_roundw
        case rel => exact ⟨k + 1, _, by omega, by have := HMI.out; go_num, HSU.out, hJ4, hnx.trans hk4⟩
        case measure => simp [intOf]
      · gi_wp2
        refine bodyPost_ret (results_none rfl _ _ _) rfl ?_
        refine ⟨⟨_, rfl⟩, .inr ⟨_, ?_, hJx4⟩⟩
        rw [HSU.out]
        exact List.take_prefix _ _
    · obtain rfl : k = M.length := by omega
      have hneg : (M.length : Int) - 1 - M.length = -1 := by omega
      rw [hneg]
      rw [List.take_of_length_le (by simp)] at hseen
      have HSE := Lib.hid hseen
      clear hseen
      gi_wp2
      go_end0
      exact ⟨⟨_, rfl⟩, .inl ⟨_, HSE.out, hJs⟩⟩
theorem back_stops (n n₀ Bs : Nat) (M : List OverE) (A : Option Addr) (c : Nat) (hl : M.length ≤ 1000000) (hs : Bs < n₀) (w : World) (hn0 : n₀ ≤ w.heap.size)
    (c0 : w.cell? ⟨Bs, 0, none⟩ = some (.slice A M.length c)) (hps : ∀ W', Below n₀ w W' → RSl encT W' A M) :
    SeqStopsK Fence.wide n Tryz.prog 80 #[.pointer (some ⟨Bs, 0, none⟩)] (fun x : Nat × InL M => encB2 x) (Below n₀)
      (fun ys => seen ys = M.reverse) (fun pre => seen pre <+: M.reverse) M.length w := fun l J Jx W hW hJ _ hY h0 => by
  have hsz := hW.size
  have a : ∀ {b o : Nat}, b < n₀ → W.cell? ⟨b, o, none⟩ = w.cell? ⟨b, o, none⟩ := fun {b o} hb => hW.cell (p := ⟨b, o, none⟩) (Nat.lt_of_lt_of_le hb hn0)
  exact back_in n l n₀ Bs M A c hl hs J Jx hY W (by omega) ((a hs).trans c0) (fun W' hb => hps W' ((hW.mono hn0).trans hb)) h0
set_option maxHeartbeats 400000 in
theorem backward_any (A : Option Addr) (n c : Nat) (w : World) : Calls Tryz.prog 55 #[.slice A n c] w fun e w' => e = .returned (.func (.func 80) #[] #[.pointer (some ⟨w.heap.size, 0, none⟩)]) ∧ w' = w.alloc (.cells #[.slice A n c] 61) := by
  go_enter Tryz.func55, Tryz.ntmps55
  go_wp2
  go_ret
  exact ⟨rfl, rfl⟩
end Go.Proofs.YthjkdeocdhdkaaaGreat
