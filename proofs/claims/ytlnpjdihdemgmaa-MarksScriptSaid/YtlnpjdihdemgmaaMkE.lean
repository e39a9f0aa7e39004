/- Package marks: the chapter's examples (lives); copyistkit.Pick. -/
import Derived.Test.YtlnpjdihdemgmaaMkD
namespace Go.Proofs.Ytlnpjdihdemgmaa
open Go.RowKit
set_option linter.unusedVariables false
variable {b bm : Nat} {m : List (Int × Mk)} {n : Int} {w : World}

theorem inserted_ok (h : MarksAt w b bm m n) (a k : Int) (ahead : Bool) (hp : placeI a = true) (hk0 : 0 ≤ k) (hk1 : k ≤ 65536) (hall : ∀ p ∈ m, placeI (insAt a k ahead p.2) = true) :
    Calls Try.prog 16 #[.pointer (some ⟨b, 0, none⟩), .int .i64 a, .int .i64 k, .bool ahead] w fun e w' => e = .returned (.int .i64 0) ∧ MarksAt w' b bm (insM_ a k ahead m) n ∧ Only (Own2 b bm) w w' :=
  (inserted_go h a k ahead hp hk0 hk1).mono fun e w' hpost => by
    rcases hpost with ⟨_, ⟨p, hp, hf⟩, _⟩ | ⟨he, _, h2, h3⟩
    · rw [hall p hp] at hf; cases hf
    · exact ⟨he, h2, h3⟩
theorem inserted_bad (h : MarksAt w b bm m n) (a k : Int) (ahead : Bool) (hp : placeI a = true) (hk0 : 0 ≤ k) (hk1 : k ≤ 65536) {p : Int × Mk} (hin : p ∈ m) (hf : placeI (insAt a k ahead p.2) = false) :
    Calls Try.prog 16 #[.pointer (some ⟨b, 0, none⟩), .int .i64 a, .int .i64 k, .bool ahead] w fun e w' => e = .returned (.int .i64 3) ∧ Below w.heap.size w w' :=
  (inserted_go h a k ahead hp hk0 hk1).mono fun e w' hpost => by
    rcases hpost with ⟨he, _, h2⟩ | ⟨_, hall, _⟩
    · exact ⟨he, h2⟩
    · rw [hall p hin] at hf; cases hf

/-- What copyistkit.Pick hands back. -/
def pickI (n most : Int) : Int := if most ≤ 0 then 0 else n % most
theorem pick_pos (n most : Int) (h : 0 < most) : 0 ≤ pickI n most ∧ pickI n most < most := by
  unfold pickI; rw [if_neg (by omega)]; exact ⟨Int.emod_nonneg _ (by omega), Int.emod_lt_of_pos _ h⟩

set_option maxHeartbeats 400000 in
theorem pick_any (n most : Int) (w : World) (h1 : 0 < most) (h2 : most ≤ 1000000) :
    Calls Try.prog 12 #[.int .i64 n, .int .i64 most] w fun e w' => e = .returned (.int .i64 (pickI n most)) ∧ w = w' := by
  have e1 : pickI n most = if n.tmod most < 0 then n.tmod most + most else n.tmod most := by
    unfold pickI
    rw [if_neg (by omega), Int.emod_eq_tmod]
    have hn : (most.natAbs : Int) = most := by omega
    by_cases h0 : 0 ≤ n
    · have := Int.tmod_nonneg most h0
      rw [if_pos (.inl h0), if_neg (by omega)]; omega
    · have hle : n.tmod most ≤ 0 := by
        have := Int.tmod_nonneg most (a := -n) (by omega)
        rw [Int.neg_tmod] at this; omega
      by_cases hd : most ∣ n
      · have := Int.tmod_eq_zero_of_dvd hd
        rw [if_pos (.inr hd), this]; simp
      · have hne : n.tmod most ≠ 0 := fun h => hd (Int.dvd_of_tmod_eq_zero h)
        rw [if_neg (by simp [hd]; omega), if_pos (by omega), hn]
  have b1 : -most < n.tmod most := by have := Int.lt_tmod_of_pos n h1; omega
  have b2 : n.tmod most < most := Int.tmod_lt_of_pos n h1
  have H1 := Lib.hid e1
  clear e1
  have hz : ¬ most = 0 := by omega
  by_cases hneg : n.tmod most < 0
  all_goals
    go_enter Try.func12, Try.ntmps12
    go_wp2
    go_ret
    exact ⟨ret_int (by rw [H1.out]; first | rw [if_pos (by omega)] | rw [if_neg (by omega)]), rfl⟩

/-- The set made anew, and what has turned since. -/
theorem Only.fin {w w1 w2 : World} {b bm : Nat} (hb : Below w.heap.size w w1) (ho : Only (Own2 b bm) w1 w2) (h1 : w.heap.size ≤ b) (h2 : w.heap.size ≤ bm) : Below w.heap.size w w2 :=
  hb.trans (ho.below hb.size (fun k hk => by rcases hk with rfl | rfl <;> assumption))

set_option maxRecDepth 100000 in
set_option maxHeartbeats 2000000 in
theorem lives_true (w : World) : Calls Try.prog 11 #[] w fun e w' => e = .returned (.bool true) ∧ Below w.heap.size w w' := by
  go_enter Try.func11, Try.ntmps11
  go_wp2_with fail
  refine (new_any _).mono ?_
  rintro e w1 ⟨rfl, h1, hB, hz⟩
  clear hz
  have ho1 := Only.refl (Own2 (w.heap.size + 1) w.heap.size) w1
  go_wp2_with fail
  refine (add_ok h1 3 false (by decide) (by decide) (by decide) (by decide)).mono ?_
  rintro e w2 ⟨rfl, h2, hc⟩
  have ho2 := ho1.trans hc
  clear hc h1 ho1
  go_wp2_with fail
  refine (add_ok h2 3 true (by decide) (by decide) (by decide) (by decide)).mono ?_
  rintro e w3 ⟨rfl, h3, hc⟩
  have ho3 := ho2.trans hc
  clear hc h2 ho2
  go_wp2_with fail
  refine (inserted_ok h3 3 2 false (by decide) (by decide) (by decide) (by decide +kernel)).mono ?_
  rintro e w4 ⟨rfl, h4, hc⟩
  have ho4 := ho3.trans hc
  clear hc h3 ho3
  go_wp2_with fail
  refine (at_yes h4 (id := 0) (x := (3, false)) (by decide +kernel)).mono ?_
  rintro e w5 ⟨rfl, hc⟩
  have ho5 := ho4.trans (Only.of_below hc)
  have h5 := h4.up hc
  clear hc h4 ho4
  go_wp2_with fail
  refine (at_yes h5 (id := 1) (x := (5, true)) (by decide +kernel)).mono ?_
  rintro e w6 ⟨rfl, hc⟩
  have ho6 := ho5.trans (Only.of_below hc)
  have h6 := h5.up hc
  clear hc h5 ho5
  go_wp2_with fail
  refine (deleted_ok h6 2 4 (by decide)).mono ?_
  rintro e w7 ⟨rfl, h7, hc⟩
  have ho7 := ho6.trans hc
  clear hc h6 ho6
  go_wp2_with fail
  refine (at_yes h7 (id := 0) (x := (2, false)) (by decide +kernel)).mono ?_
  rintro e w8 ⟨rfl, hc⟩
  have ho8 := ho7.trans (Only.of_below hc)
  have h8 := h7.up hc
  clear hc h7 ho7
  go_wp2_with fail
  refine (at_yes h8 (id := 1) (x := (3, true)) (by decide +kernel)).mono ?_
  rintro e w9 ⟨rfl, hc⟩
  have ho9 := ho8.trans (Only.of_below hc)
  have h9 := h8.up hc
  clear hc h8 ho8
  go_wp2
  go_ret
  exact ⟨rfl, Only.fin hB ho9 (by omega) (Nat.le_refl _)⟩
end Go.Proofs.Ytlnpjdihdemgmaa
