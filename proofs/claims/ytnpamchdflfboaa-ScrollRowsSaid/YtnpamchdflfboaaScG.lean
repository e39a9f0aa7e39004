/- The chapter's examples: keeps, centers, pages, awake, ScrollKnown return true. -/
import Derived.Test.YtnpamchdflfboaaScF
namespace Go.Proofs.Ytnpamchdflfboaa
open Go.RowKit Go.Shelf
set_option linter.unusedVariables false

theorem up2 {w w1 w2 : World} (h : Below w.heap.size w w1) (k : Below w1.heap.size w1 w2) : Below w.heap.size w w2 := h.trans (k.mono h.size)

set_option maxHeartbeats 400000 in
theorem keeps_true (start row margin step want : Int) (w : World) (h1 : keepOk 20 5 row step = true) (h2 : keepN 20 5 start row margin step = want) :
    Calls Try.prog 17 #[.int .i64 start, .int .i64 row, .int .i64 margin, .int .i64 step, .int .i64 want] w fun e w' => e = .returned (.bool true) ∧ Below w.heap.size w w' := by
  have H2 := Lib.hid h2
  clear h2
  go_enter Try.func17, Try.ntmps17
  go_wp2_with fail
  refine (keep_yes 20 5 start row margin step w h1).mono ?_
  rintro e w1 ⟨rfl, hb⟩
  rw [H2.out]
  go_wp2
  go_ret
  exact ⟨ret_bool (by simp), hb⟩

set_option maxHeartbeats 400000 in
theorem centers_true (row line want : Int) (w : World) (h1 : centerOk 20 5 row = true) (h2 : centerN 20 5 row line = want) :
    Calls Try.prog 18 #[.int .i64 row, .int .i64 line, .int .i64 want] w fun e w' => e = .returned (.bool true) ∧ Below w.heap.size w w' := by
  have H2 := Lib.hid h2
  clear h2
  go_enter Try.func18, Try.ntmps18
  go_wp2_with fail
  refine (Center_yes 20 5 row line w h1).mono ?_
  rintro e w1 ⟨rfl, hb⟩
  rw [H2.out]
  go_wp2
  go_ret
  exact ⟨ret_bool (by simp), hb⟩

set_option maxHeartbeats 400000 in
theorem pages_true (start n overlap want : Int) (moves : Bool) (w : World) (h2 : pageN 20 5 start n overlap = want) (h3 : (want != clampI start 0 19) = moves) :
    Calls Try.prog 19 #[.int .i64 start, .int .i64 n, .int .i64 overlap, .int .i64 want, .bool moves] w fun e w' => e = .returned (.bool true) ∧ Below w.heap.size w w' := by
  have h3' : (pageN 20 5 start n overlap != clampI start 0 (20 - 1)) = moves := by rw [h2]; exact h3
  have H2 := Lib.hid h2
  have H3 := Lib.hid h3'
  clear h2 h3 h3'
  go_enter Try.func19, Try.ntmps19
  go_wp2_with fail
  refine (Page_yes 20 5 start n overlap w (by decide)).mono ?_
  rintro e w1 ⟨rfl, hb⟩
  rw [H3.out, H2.out]
  go_wp2
  all_goals (go_ret; exact ⟨ret_bool (by simp), hb⟩)

theorem Well_lit (rows height start row margin : Int) (b : Bool) (w : World) (h : wellW rows height start row margin = b) :
    Calls Try.prog 13 #[.int .i64 rows, .int .i64 height, .int .i64 start, .int .i64 row, .int .i64 margin] w fun e w' => e = .returned (.bool b) ∧ Below w.heap.size w w' := by
  rw [← h]; exact Well_any rows height start row margin w

set_option maxHeartbeats 1000000 in
theorem awake_true (w : World) : Calls Try.prog 8 #[] w fun e w' => e = .returned (.bool true) ∧ Below w.heap.size w w' := by
  go_enter Try.func8, Try.ntmps8
  go_wp2_with fail
  refine (Well_lit 20 5 3 3 0 true _ (by decide)).mono ?_
  rintro e w1 ⟨rfl, hb1⟩
  go_wp2_with fail
  refine (Well_lit 20 5 3 3 1 false _ (by decide)).mono ?_
  rintro e w2 ⟨rfl, hb2⟩
  have hb2 := up2 hb1 hb2
  clear hb1
  go_wp2_with fail
  refine (keeps_true 3 8 0 1 4 _ (by decide) (by decide +kernel)).mono ?_
  rintro e w3 ⟨rfl, hb3⟩
  have hb3 := up2 hb2 hb3
  clear hb2
  go_wp2_with fail
  refine (keeps_true 3 9 0 1 7 _ (by decide) (by decide +kernel)).mono ?_
  rintro e w4 ⟨rfl, hb4⟩
  have hb4 := up2 hb3 hb4
  clear hb3
  go_wp2_with fail
  refine (centers_true 10 (2) 8 _ (by decide) (by decide)).mono ?_
  rintro e w5 ⟨rfl, hb5⟩
  have hb5 := up2 hb4 hb5
  clear hb4
  go_wp2_with fail
  refine (pages_true 3 (1) 2 6 true _ (by decide) (by decide)).mono ?_
  rintro e w6 ⟨rfl, hb6⟩
  have hb6 := up2 hb5 hb6
  clear hb5
  go_wp2
  go_ret
  exact ⟨rfl, hb6⟩

set_option maxHeartbeats 1000000 in
theorem known_true (w : World) : Calls Try.prog 4 #[] w fun e w' => e = .returned (.bool true) ∧ Below w.heap.size w w' := by
  go_enter Try.func4, Try.ntmps4
  go_wp2_with fail
  refine (Center_no 20 5 20 0 _ (by decide)).mono ?_
  rintro e w1 ⟨rfl, hb1⟩
  go_wp2_with fail
  refine (Well_lit 20 5 0 0 2 true _ (by decide)).mono ?_
  rintro e w2 ⟨rfl, hb2⟩
  have hb2 := up2 hb1 hb2
  clear hb1
  go_wp2_with fail
  refine (Well_lit 20 5 15 19 2 true _ (by decide)).mono ?_
  rintro e w3 ⟨rfl, hb3⟩
  have hb3 := up2 hb2 hb3
  clear hb2
  go_wp2_with fail
  refine (Well_lit 20 5 3 8 0 false _ (by decide)).mono ?_
  rintro e w4 ⟨rfl, hb4⟩
  have hb4 := up2 hb3 hb4
  clear hb3
  go_wp2_with fail
  refine (keeps_true 3 8 1 2 5 _ (by decide) (by decide +kernel)).mono ?_
  rintro e w5 ⟨rfl, hb5⟩
  have hb5 := up2 hb4 hb5
  clear hb4
  go_wp2_with fail
  refine (keeps_true 3 2 0 1 2 _ (by decide) (by decide +kernel)).mono ?_
  rintro e w6 ⟨rfl, hb6⟩
  have hb6 := up2 hb5 hb6
  clear hb5
  go_wp2_with fail
  refine (keeps_true 99 19 0 1 19 _ (by decide) (by decide +kernel)).mono ?_
  rintro e w7 ⟨rfl, hb7⟩
  have hb7 := up2 hb6 hb7
  clear hb6
  go_wp2_with fail
  refine (centers_true 10 (-1) 6 _ (by decide) (by decide)).mono ?_
  rintro e w8 ⟨rfl, hb8⟩
  have hb8 := up2 hb7 hb8
  clear hb7
  go_wp2_with fail
  refine (centers_true 1 (4) 0 _ (by decide) (by decide)).mono ?_
  rintro e w9 ⟨rfl, hb9⟩
  have hb9 := up2 hb8 hb9
  clear hb8
  go_wp2_with fail
  refine (awake_true _).mono ?_
  rintro e w10 ⟨rfl, hb10⟩
  have hb10 := up2 hb9 hb10
  clear hb9
  go_wp2_with fail
  refine (pages_true 3 (-1) 2 0 true _ (by decide) (by decide)).mono ?_
  rintro e w11 ⟨rfl, hb11⟩
  have hb11 := up2 hb10 hb11
  clear hb10
  go_wp2_with fail
  refine (pages_true 18 (1) 2 19 true _ (by decide) (by decide)).mono ?_
  rintro e w12 ⟨rfl, hb12⟩
  have hb12 := up2 hb11 hb12
  clear hb11
  go_wp2_with fail
  refine (pages_true 19 (1) 2 19 false _ (by decide) (by decide)).mono ?_
  rintro e w13 ⟨rfl, hb13⟩
  have hb13 := up2 hb12 hb13
  clear hb12
  go_wp2_with fail
  refine (pages_true 0 (1) 9 1 true _ (by decide) (by decide)).mono ?_
  rintro e w14 ⟨rfl, hb14⟩
  have hb14 := up2 hb13 hb14
  clear hb13
  go_wp2
  go_ret
  exact ⟨rfl, hb14⟩

/-- What copyistkit.Pick hands back. -/
def pickI (n most : Int) : Int := if most ≤ 0 then 0 else n % most
theorem pick_pos (n most : Int) (h : 0 < most) : 0 ≤ pickI n most ∧ pickI n most < most := by
  unfold pickI; rw [if_neg (by omega)]; exact ⟨Int.emod_nonneg _ (by omega), Int.emod_lt_of_pos _ h⟩
end Go.Proofs.Ytnpamchdflfboaa
