/- slices.Backward at ints: the contract of its closure. -/
import Derived.Test.YtnpamchdflfboaaRwG
namespace Go.Proofs.Ytnpamchdflfboaa
open Go.RowKit Go.Shelf
set_option linter.unusedVariables false
set_option linter.unusedSimpArgs false
attribute [local go_sem] Oper.semAt_some
/-- The first k elements from the back, with their indexes. -/
def backTo (ps : List Int) (k : Nat) : List (Nat × Int) := (List.range k).map fun j => (ps.length - 1 - j, ps.getD (ps.length - 1 - j) 0)
theorem backTo_succ (ps : List Int) (k : Nat) : backTo ps (k + 1) = backTo ps k ++ [(ps.length - 1 - k, ps.getD (ps.length - 1 - k) 0)] := by
  simp [backTo, List.range_succ]
theorem backTo_prefix (ps : List Int) (k m : Nat) (h : k ≤ m) : backTo ps k <+: backTo ps m := by
  induction m with
  | zero => obtain rfl : k = 0 := by omega
            exact List.prefix_refl _
  | succ m ih =>
    by_cases e : k = m + 1
    · subst e; exact List.prefix_refl _
    · exact (ih (by omega)).trans (by rw [backTo_succ]; exact List.prefix_append _ _)
theorem backTo_length (ps : List Int) (k : Nat) : (backTo ps k).length = k := by simp [backTo]
set_option maxRecDepth 100000 in
set_option maxHeartbeats 2000000 in
theorem back_in (n l n₀ Bs : Nat) (ps : List Int) (A : Option Addr) (c : Nat) (hl : ps.length ≤ 1000000)
    (hs : Bs < n₀) (J Jx : List (Nat × Int) → World → Prop)
    (hY : ∀ pre (x : Nat × Int) W, J pre W → pre.length < ps.length → YieldAt Fence.wide (n - 1) Try.prog l #[.int .i64 x.1, .int .i64 x.2] W fun e W' =>
      (e = .returned (.bool true) ∧ J (pre ++ [x]) W' ∧ Below n₀ W W') ∨ (e = .returned (.bool false) ∧ Jx (pre ++ [x]) W'))
    (W : World) (hn0 : n₀ ≤ W.heap.size)
    (c0 : W.cell? ⟨Bs, 0, none⟩ = some (.slice A ps.length c)) (hps : ∀ W', Below n₀ W W' → RSl encI W' A ps) (h0 : J [] W) :
    CallsIn Fence.wide n Try.prog 50 #[.func (.yield l) #[] #[], .pointer (some ⟨Bs, 0, none⟩)] W fun e W' => (∃ v, e = .returned v) ∧
      ((∃ ys, ys = backTo ps ps.length ∧ J ys W') ∨ (∃ pre, pre <+: backTo ps ps.length ∧ Jx pre W')) := by
  have HPS := Lib.hid hps
  clear hps
  refine callsIn_of_wp Try.func50 rfl trivial ?_ rfl
  simp only [Try.ntmps50, List.size_toArray, List.length_cons, List.length_nil, Nat.reduceAdd, Nat.reduceSub, Array.replicate_succ, Array.replicate_zero, List.push_toArray, List.append_toArray, List.nil_append, List.cons_append]
  gi_wp2
  gi_loopw [3] (fun i wr => ∃ k : Nat, k ≤ ps.length ∧ i = .int .i64 ((ps.length : Int) - 1 - k) ∧ J (backTo ps k) wr ∧ Below n₀ W wr) (fun i _ => ((intOf i) + 1).toNat)
  case atStart => exact ⟨0, Nat.zero_le _, by simp, h0, Below.refl _ _⟩
  case round =>
    obtain ⟨k, hk, rfl, hJs, hnx⟩ := hrel
    by_cases hlt : k < ps.length
    · have d0 := (hnx.cell (p := ⟨Bs, 0, none⟩) hs).trans c0
      obtain ⟨m, hm⟩ : ∃ m : Nat, ps.length - 1 - k = m := ⟨_, rfl⟩
      have hmi : (ps.length : Int) - 1 - k = (m : Int) := by omega
      rw [hmi]
      obtain ⟨z, hz⟩ : ∃ z, ps[m]? = some z := ⟨_, List.getElem?_eq_getElem (by omega)⟩
      obtain ⟨g, o, rfl, hg, hcg⟩ := (HPS.out wr hnx).at_ eltI hz
      have k0 := hcg 0 _ rfl
      simp only [Nat.mul_one, Nat.add_zero] at k0
      have hsuc : backTo ps (k + 1) = backTo ps k ++ [(m, z)] := by
        rw [backTo_succ, hm, List.getD_eq_getElem?_getD, hz]; rfl
      have HP := Lib.hid (backTo_prefix ps (k + 1) ps.length hlt)
      have HSU := Lib.hid hsuc
      have hmlt : (m : Int) < ps.length := by omega
      have hm0 : (0 : Int) ≤ m := by omega
      have hlen := backTo_length ps k
      have HM := Lib.hid hm
      have HMI := Lib.hid hmi
      have hYk := hY (backTo ps k) (m, z) wr hJs (by rw [hlen]; exact hlt)
      clear hsuc hm hmi hz hcg c0 hlen hY
      have hd : decide ((0 : Int) ≤ (m : Int)) = true := decide_eq_true hm0
      obtain ⟨fn, tmps, assign, body, hy, hR⟩ := hYk
      dsimp only at hy
      gi_wp2_with fail
      refine ⟨(fun h => by cases h), hR.mono ?_⟩
      clear hR hy
      rintro e w4 (⟨rfl, hJ4, hk4⟩ | ⟨rfl, hJx4⟩)
      · rw [← HSU.out] at hJ4
        gi_wp2
        go_roundw
        case rel => exact ⟨k + 1, by omega, by have := HMI.out; go_num, hJ4, hnx.trans hk4⟩
        case measure => simp [intOf]
      · gi_wp2
        refine bodyPost_ret (results_none rfl _ _ _) rfl ?_
        refine ⟨⟨_, rfl⟩, .inr ⟨_, ?_, hJx4⟩⟩
        rw [← HSU.out]
        exact HP.out
    · obtain rfl : k = ps.length := by omega
      have hneg : (ps.length : Int) - 1 - ps.length = -1 := by omega
      rw [hneg]
      gi_wp2
      go_end0
      exact ⟨⟨_, rfl⟩, .inl ⟨_, rfl, hJs⟩⟩
end Go.Proofs.Ytnpamchdflfboaa
