/- copyistlaw16.MarksFull returns true. -/
import Derived.Test.YtlnpjdihdemgmaaMkE
namespace Go.Proofs.Ytlnpjdihdemgmaa
open Go.RowKit
set_option linter.unusedVariables false

def fullTo (p : Int) (k : Nat) : List (Int × Mk) := (List.range k).map (fun (j : Nat) => ((j : Int), (1 + p + (j : Int) % 7, ((j : Int) % 2 == 0))))
theorem fullTo_succ (p : Int) (k : Nat) : fullTo p (k + 1) = fullTo p k ++ [((k : Int), (1 + p + (k : Int) % 7, ((k : Int) % 2 == 0)))] := by simp [fullTo, List.range_succ]
theorem fullTo_length (p : Int) (k : Nat) : (fullTo p k).length = k := by simp [fullTo]
theorem fullTo_look (p : Int) (k : Nat) (id : Int) (h0 : 0 ≤ id) (h1 : id < k) (hn : ((fullTo p k).map (·.1)).Nodup) : ∃ x, lookM (fullTo p k) id = some x :=
  ⟨_, lookM_of_mem hn (List.mem_map.2 ⟨id.toNat, List.mem_range.2 (by omega), by rw [Int.toNat_of_nonneg h0]⟩)⟩
theorem delM_length {α : Type} : ∀ {m : List (Int × α)} {k : Int} {x : α}, (m.map (·.1)).Nodup → lookM m k = some x → (delM m k).length + 1 = m.length
  | [], _, _, _, h => by simp [lookM] at h
  | p :: r, k, x, hn, h => by
    simp only [List.map_cons, List.nodup_cons] at hn
    by_cases e : p.1 = k
    · have hr : lookM r k = none := lookM_none.2 (fun q hq e2 => hn.1 (by rw [e, ← e2]; exact List.mem_map.2 ⟨q, hq, rfl⟩))
      have hd : delM (p :: r) k = delM r k := by unfold delM; rw [List.filter_cons, if_neg (by simp [e])]
      rw [hd, length_del_none hr]; simp
    · have h' : lookM r k = some x := by
        unfold lookM at h ⊢
        rw [List.find?_cons] at h
        have : (p.1 == k) = false := by simpa using e
        rw [this] at h; exact h
      have ih := delM_length hn.2 h'
      have hd : delM (p :: r) k = p :: delM r k := by unfold delM; rw [List.filter_cons, if_pos (by simpa using e)]
      rw [hd]; simp only [List.length_cons]; omega

set_option maxRecDepth 100000 in
set_option maxHeartbeats 2000000 in
theorem full_true (at_ which : Int) (w : World) : Calls Try.prog 4 #[.int .i64 at_, .int .i64 which] w fun e w' => e = .returned (.bool true) ∧ Below w.heap.size w w' := by
  obtain ⟨p0, p1⟩ := pick_pos at_ 100 (by omega)
  obtain ⟨q0, q1⟩ := pick_pos which 4096 (by omega)
  go_enter Try.func4, Try.ntmps4
  go_wp2_with fail
  refine (lives_true w).mono ?_
  rintro e w1 ⟨rfl, hB1⟩
  go_wp2_with fail
  refine (new_any w1).mono ?_
  rintro e w2 ⟨rfl, h2, hB2, hz2⟩
  have hB := up2 hB1 hB2
  have hle := hB1.size
  clear hB1 hB2 hz2
  go_wp2_with fail
  go_loopw [6] (fun i wr => ∃ k : Nat, k ≤ 4096 ∧ i = .int .i64 k ∧ MarksAt wr (w1.heap.size + 1) w1.heap.size (fullTo (pickI at_ 100) k) k ∧ Only (Own2 (w1.heap.size + 1) w1.heap.size) w2 wr) (fun i _ => 4096 - (intOf i).toNat)
  case atStart => exact ⟨0, by omega, rfl, h2, Only.refl _ _⟩
  case round =>
    obtain ⟨k, hk, rfl, hm, hon⟩ := hrel
    have hlen := fullTo_length (pickI at_ 100) k
    by_cases hlt : k < 4096
    · go_wp2_with (go_at_call 12; refine (pick_any _ _ _ (by omega) (by omega)).mono ?_; rintro e w' ⟨rfl, rfl⟩)
      refine (add_ok hm _ _ ?_ ?_ ?_ ?_).mono ?_
      · simp [placeI]; omega
      · omega
      · omega
      · omega
      rintro e w3 ⟨rfl, h3, ho3⟩
      have hon3 := hon.trans ho3
      go_wp2
      go_roundw
      case rel => exact ⟨k + 1, by omega, by go_num, by rw [fullTo_succ]; exact h3, hon3⟩
      case measure => simp [intOf]; omega
    · obtain rfl : k = 4096 := by omega
      obtain ⟨x, hx⟩ := fullTo_look (pickI at_ 100) 4096 (pickI which 4096) q0 (by omega) hm.im.nodup
      have hdl := delM_length hm.im.nodup hx
      have hdl' : (delM (fullTo (pickI at_ 100) 4096) (pickI which 4096)).length = 4095 := by omega
      have HX := Lib.hid hx
      have HD := Lib.hid hdl'
      have HL := Lib.hid hlen
      clear hx hdl hdl' hlen
      go_wp2_with fail
      refine (add_full hm 1 false (by decide) (by rw [HL.out]; omega)).mono ?_
      rintro e _ ⟨rfl, rfl⟩
      go_wp2_with (go_at_call 12; refine (pick_any _ _ _ (by omega) (by omega)).mono ?_; rintro e w' ⟨rfl, rfl⟩)
      refine (drop_yes hm HX.out).mono ?_
      rintro e w3 ⟨rfl, h3, ho3⟩
      have hon3 := hon.trans ho3
      go_wp2_with fail
      refine (add_ok h3 1 false (by decide) (by rw [HD.out]; omega) (by omega) (by omega)).mono ?_
      rintro e w4 ⟨rfl, h4, ho4⟩
      have hon4 := hon3.trans ho4
      have hl4 : ((delM (fullTo (pickI at_ 100) 4096) (pickI which 4096) ++ [(((4096 : Nat) : Int), ((1 : Int), false))]).length : Int) = 4096 := by simp [HD.out]
      have HL4 := Lib.hid hl4
      clear hl4
      go_wp2_with fail
      refine (many_any h4).mono ?_
      rintro e _ ⟨rfl, rfl⟩
      rw [HL4.out]
      go_wp2
      go_ret
      exact ⟨rfl, Only.fin hB hon4 (by omega) (by omega)⟩
end Go.Proofs.Ytlnpjdihdemgmaa
