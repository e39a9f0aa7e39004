/- copyistlaw16.MarksNames returns true. -/
import Derived.Test.YtlnpjdihdemgmaaMkE
namespace Go.Proofs.Ytlnpjdihdemgmaa
open Go.RowKit
set_option linter.unusedVariables false

set_option maxRecDepth 100000 in
set_option maxHeartbeats 2000000 in
theorem names_true (w : World) : Calls Try.prog 5 #[] w fun e w' => e = .returned (.bool true) ∧ Below w.heap.size w w' := by
  go_enter Try.func5, Try.ntmps5
  go_wp2_with fail
  refine (new_any _).mono ?_
  rintro e w1 ⟨rfl, h1, hB, hz⟩
  clear hz
  have ho1 := Only.refl (Own2 (w.heap.size + 1) w.heap.size) w1
  go_wp2_with fail
  refine (add_range h1 0 false (by decide +kernel)).mono ?_
  rintro e _ ⟨rfl, rfl⟩
  go_wp2_with fail
  refine (add_range h1 1099511627777 false (by decide +kernel)).mono ?_
  rintro e _ ⟨rfl, rfl⟩
  go_wp2_with fail
  refine (add_ok h1 1099511627776 true (by decide +kernel) (by decide) (by decide) (by decide)).mono ?_
  rintro e w2 ⟨rfl, h2, hc⟩
  have ho2 := ho1.trans hc
  clear hc h1 ho1
  go_wp2_with fail
  refine (inserted_bad h2 1 1 false (by decide +kernel) (by decide) (by decide) (p := (0, (1099511627776, true))) (by decide +kernel) (by decide +kernel)).mono ?_
  rintro e w3 ⟨rfl, hc⟩
  have ho3 := ho2.trans (Only.of_below hc)
  have h3 := h2.up hc
  clear hc h2 ho2
  go_wp2_with fail
  refine (inserted_arg h3 1 65537 false (by decide +kernel) (.inr (by decide))).mono ?_
  rintro e w4 ⟨rfl, hc⟩
  have ho4 := ho3.trans (Only.of_below hc)
  have h4 := h3.up hc
  clear hc h3 ho3
  go_wp2_with fail
  refine (drop_yes h4 (id := 0) (x := (1099511627776, true)) (by decide +kernel)).mono ?_
  rintro e w5 ⟨rfl, h5, hc⟩
  have ho5 := ho4.trans hc
  clear hc h4 ho4
  go_wp2_with fail
  refine (drop_no h5 (id := 0) (by decide +kernel)).mono ?_
  rintro e w6 ⟨rfl, hc⟩
  have ho6 := ho5.trans (Only.of_below hc)
  have h6 := h5.up hc
  clear hc h5 ho5
  go_wp2_with fail
  refine (add_ok h6 7 false (by decide +kernel) (by decide +kernel) (by decide) (by decide)).mono ?_
  rintro e w7 ⟨rfl, h7, hc⟩
  have ho7 := ho6.trans hc
  clear hc h6 ho6
  go_wp2_with fail
  refine (inserted_ok h7 7 2 true (by decide +kernel) (by decide) (by decide) (by decide +kernel)).mono ?_
  rintro e w8 ⟨rfl, h8, hc⟩
  have ho8 := ho7.trans hc
  clear hc h7 ho7
  go_wp2_with fail
  refine (at_yes h8 (id := 1) (x := (9, false)) (by decide +kernel)).mono ?_
  rintro e w9 ⟨rfl, hc⟩
  have ho9 := ho8.trans (Only.of_below hc)
  have h9 := h8.up hc
  clear hc h8 ho8
  go_wp2_with fail
  refine (at_no h9 (id := 0) (by decide +kernel)).mono ?_
  rintro e w10 ⟨rfl, hc⟩
  have ho10 := ho9.trans (Only.of_below hc)
  have h10 := h9.up hc
  clear hc h9 ho9
  go_wp2_with fail
  refine (lives_true _).mono ?_
  rintro e w11 ⟨rfl, hc⟩
  have ho11 := ho10.trans (Only.of_below hc)
  have h11 := h10.up hc
  clear hc h10 ho10
  go_wp2_with fail
  refine (move_range h11 (id := 1) (x := (9, false)) 0 (by decide +kernel) (by decide +kernel)).mono ?_
  rintro e w12 ⟨rfl, hc⟩
  have ho12 := ho11.trans (Only.of_below hc)
  have h12 := h11.up hc
  clear hc h11 ho11
  go_wp2_with fail
  refine (move_no h12 (id := 0) 0 (by decide +kernel)).mono ?_
  rintro e w13 ⟨rfl, hc⟩
  have ho13 := ho12.trans (Only.of_below hc)
  have h13 := h12.up hc
  clear hc h12 ho12
  go_wp2_with fail
  refine (deleted_bad h13 3 2 (by decide +kernel)).mono ?_
  rintro e w14 ⟨rfl, hc⟩
  have ho14 := ho13.trans (Only.of_below hc)
  have h14 := h13.up hc
  clear hc h13 ho13
  go_wp2_with fail
  refine (many_any h14).mono ?_
  rintro e _ ⟨rfl, rfl⟩
  go_wp2
  go_ret
  exact ⟨rfl, Only.fin hB ho14 (by omega) (Nat.le_refl _)⟩
end Go.Proofs.Ytlnpjdihdemgmaa
