/- copyistlaw25: light, lives; the reference's calls in the same plain terms. -/
import Derived.Test.YtaofcnmajicpcaaGreatDoorKrL
namespace Go.Proofs.YtaofcnmajicpcaaGreatDoor
open Go.RowKit
set_option linter.unusedVariables false
set_option linter.unusedSimpArgs false
section
variable {w w' : World} {b N : Nat} {L : List ByteArray} {most at_ : Nat} {v : Value}
/-- What the reference's calls leave. -/
def RK1 (w : World) (b : Nat) (v : Value) (most : Nat) (r : KR) (e : Ending) (w' : World) : Prop :=
  e = .returned (.int .i64 r.err) ∧ ∃ v', RRing w' b v' r.L most r.at_ ∧ Only (fun k => k = b ∨ v.ownBlock = some k) w w' ∧ (v'.ownBlock = v.ownBlock ∨ ∀ g, v'.ownBlock = some g → w.heap.size ≤ g)
def RK2 (w : World) (b : Nat) (v : Value) (most : Nat) (r : KR) (e : Ending) (w' : World) : Prop :=
  e = .returned (.tuple #[.string r.x, .int .i64 r.err]) ∧ ∃ v', RRing w' b v' r.L most r.at_ ∧ Only (fun k => k = b ∨ v.ownBlock = some k) w w' ∧ (v'.ownBlock = v.ownBlock ∨ ∀ g, v'.ownBlock = some g → w.heap.size ≤ g)
/-- How great the strings of a ring can be. -/
theorem catB_size (s x : ByteArray) (ahead : Bool) : (catB s x ahead).size = s.size + x.size := by
  unfold catB; split <;> simp [ByteArray.size_append] <;> omega
theorem head_mem {L : List ByteArray} (h : ¬ L.length = 0) : L.getD 0 ByteArray.empty ∈ L := by
  rcases L with _ | ⟨x, L⟩
  · simp at h
  · simp
theorem killK_size {B n : Nat} (hL : ∀ x ∈ L, x.size ≤ B) (s : ByteArray) (hs : s.size ≤ n) : ∀ x ∈ (killK most L at_ s).L, x.size ≤ B + n := by
  unfold killK
  split
  · intro x hx
    rcases List.mem_cons.1 (List.mem_of_mem_take hx) with rfl | h
    · omega
    · have := hL x h; omega
  · intro x hx; have := hL x hx; omega
theorem doK_size {B n : Nat} (hL : ∀ x ∈ L, x.size ≤ B) (a : KAct) (hs : a.text.size ≤ n) : ∀ x ∈ (doK most L at_ a).L, x.size ≤ B + n := by
  have h0 : ∀ x ∈ L, x.size ≤ B + n := fun x hx => by have := hL x hx; omega
  unfold doK
  split
  · exact killK_size hL _ hs
  · split
    · unfold appK
      split
      · exact killK_size hL _ hs
      · rename_i hne
        split
        · intro x hx
          rcases List.mem_cons.1 hx with rfl | h
          · rw [catB_size]; have := hL _ (head_mem hne); omega
          · exact h0 x (List.mem_of_mem_tail h)
        · exact h0
    · split
      · unfold yankK; split <;> exact h0
      · unfold popK; split <;> exact h0
theorem head_size {B : Nat} (hL : ∀ x ∈ L, x.size ≤ B) : (L.getD 0 ByteArray.empty).size ≤ B := by
  rcases L with _ | ⟨x, L⟩
  · simp
  · exact hL x (by simp)

def lightB (l : List KAct) : Bool := l.all (fun a => decide (a.text.size ≤ 40)) && decide (l.length ≤ 60)
set_option maxRecDepth 100000 in
set_option maxHeartbeats 1000000 in
theorem light_any {A : Option Addr} {l : List KAct} (c : Nat) (h : RSl encA w A l) (hl : l.length ≤ 9223372036854775807) (hts : ∀ a ∈ l, a.text.size ≤ 9223372036854775807) :
    Calls Tryz.prog 5 #[.slice A l.length c] w fun e w' => e = .returned (.bool (lightB l)) ∧ w = w' := by
  have HL : Hid (lightB l = (l.all (fun a => decide (a.text.size ≤ 40)) && decide (l.length ≤ 60))) := Lib.hid rfl
  go_enter Tryz.func5, Tryz.ntmps5
  go_wp2_with fail
  go_loop [3] (fun vi => ∃ k : Nat, k ≤ l.length ∧ vi = .int .i64 k ∧ ∀ a ∈ l.take k, a.text.size ≤ 40) (fun vi => l.length - (intOf vi).toNat)
  case atStart => exact ⟨0, by omega, rfl, by simp⟩
  case round =>
    obtain ⟨k, hk, rfl, hall⟩ := hrel
    have HALL := Lib.hid hall
    clear hall
    by_cases hlt : k < l.length
    · obtain ⟨a, hx⟩ : ∃ a, l[k]? = some a := ⟨_, List.getElem?_eq_getElem hlt⟩
      obtain ⟨g, o, rfl, hg, hc⟩ := h.at_ eltA hx
      have c2 := hc 2 _ rfl
      have ht := hts a (List.mem_of_getElem? hx)
      have hmem := List.mem_of_getElem? hx
      have htk : l.take (k + 1) = l.take k ++ [a] := by rw [List.take_succ_eq_append_getElem hlt]; congr 2; exact (List.getElem?_eq_some_iff.1 hx).2
      have HTK := Lib.hid htk
      have HX := Lib.hid hx
      have hlt' : (k : Int) < l.length := by omega
      simp only [← Nat.add_assoc] at c2
      clear hc hx htk hts
      by_cases h40 : a.text.size ≤ 40
      · have d1 : decide ((40 : Int) < a.text.size) = false := decide_eq_false (by omega)
        go_wp2_with fail
        go_round
        case rel => exact ⟨k + 1, by omega, by go_num, by rw [HTK.out]; intro y hy; rcases List.mem_append.1 hy with h | h; exact HALL.out y h; rw [List.mem_singleton.1 h]; exact h40⟩
        case measure => simp [intOf]; omega
      · have d1 : decide ((40 : Int) < a.text.size) = true := decide_eq_true (by omega)
        go_wp2_with fail
        go_ret
        refine ⟨ret_bool ?_, rfl⟩
        rw [HL.out, eq_comm, Bool.and_eq_false_iff]
        left
        rw [List.all_eq_false]
        exact ⟨a, hmem, by simpa using h40⟩
    · have hkn : k = l.length := by omega
      subst hkn
      go_wp2_with fail
      go_ret
      refine ⟨ret_bool ?_, rfl⟩
      rw [HL.out]
      have : l.all (fun a => decide (a.text.size ≤ 40)) = true := by
        rw [List.all_eq_true]; intro y hy; have := HALL.out y (by rw [List.take_length]; exact hy); simpa using this
      rw [this, Bool.true_and]
      by_cases h60 : l.length ≤ 60
      · rw [decide_eq_true h60]; simp; omega
      · rw [decide_eq_false h60]; simp; omega
theorem vldA : vld ⟨#[97]⟩ = true := by kernel_rfl
theorem vldB : vld ⟨#[98]⟩ = true := by kernel_rfl
theorem vldNew : vld ⟨#[110, 101, 119]⟩ = true := by kernel_rfl
set_option maxRecDepth 100000 in
set_option maxHeartbeats 1000000 in
theorem lives_true (hT : Tabs N w) (hN : N ≤ w.heap.size) : Calls Tryz.prog 4 #[] w fun e w' => e = .returned (.bool true) ∧ Below w.heap.size w w' := by
  go_enter Tryz.func4, Tryz.ntmps4
  go_wp2_with fail
  refine (knew_ok 3 w (by omega) (by omega)).mono ?_
  rintro e w1 ⟨rfl, hr, hb⟩
  have h1 : Ring w1 w.heap.size [] 3 0 := ⟨_, _, hr, rfl⟩
  have hT1 := hT.up hb
  clear hr
  go_wp2_with fail
  refine (h1.kill_ok ⟨#[97]⟩ (by decide) hT1 vldA).mono ?_
  rintro e w2 ⟨rfl, h2, ho2⟩
  have hT2 := hT1.only ho2 (fun k hk => by subst hk; exact hN)
  go_wp2_with fail
  refine (h2.kill_ok ⟨#[98]⟩ (by decide) hT2 vldB).mono ?_
  rintro e w3 ⟨rfl, h3, ho3⟩
  have hT3 := hT2.only ho3 (fun k hk => by subst hk; exact hN)
  have g3 : Ring w3 w.heap.size [⟨#[98]⟩, ⟨#[97]⟩] 3 0 := h3
  have cy := g3.yank (by decide) 1
  rw [show turnTo [(⟨#[98]⟩ : ByteArray), ⟨#[97]⟩].length 0 ((1 : Int).tmod ([(⟨#[98]⟩ : ByteArray), ⟨#[97]⟩].length : Nat) - 1) = 0 from by decide] at cy
  have CY := Lib.hid cy
  clear cy h1 h2 h3 hT1 hT2 hT3 hT
  go_wp2_with fail
  refine CY.out.mono ?_
  rintro e w4 ⟨rfl, h4, ho4⟩
  have cp := h4.pop (by decide) 1
  rw [show turnTo [(⟨#[98]⟩ : ByteArray), ⟨#[97]⟩].length 0 ((1 : Int).tmod ([(⟨#[98]⟩ : ByteArray), ⟨#[97]⟩].length : Nat)) = 1 from by decide] at cp
  have CP := Lib.hid cp
  clear cp
  go_wp2_with fail
  refine CP.out.mono ?_
  rintro e w5 ⟨rfl, h5, ho5⟩
  have cq := h5.pop (by decide) 1
  rw [show turnTo [(⟨#[98]⟩ : ByteArray), ⟨#[97]⟩].length 1 ((1 : Int).tmod ([(⟨#[98]⟩ : ByteArray), ⟨#[97]⟩].length : Nat)) = 0 from by decide] at cq
  have CQ := Lib.hid cq
  clear cq
  go_wp2_with fail
  refine CQ.out.mono ?_
  rintro e w6 ⟨rfl, h6, ho6⟩
  have HO := Lib.hid (((((Only.of_below hb).then ho2 (fun i hi _ => hi)).trans ho3).trans ho4).trans ho5 |>.trans ho6)
  clear ho2 ho3 ho4 ho5 ho6 h4 h5 h6 g3
  go_wp2_with fail
  go_outline
  go_ret
  exact ⟨rfl, HO.out.below (Nat.le_refl _) (fun k hk => by subst hk; exact Nat.le_refl _)⟩
end
end Go.Proofs.YtaofcnmajicpcaaGreatDoor
