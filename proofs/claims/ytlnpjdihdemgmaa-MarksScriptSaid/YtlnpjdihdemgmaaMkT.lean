/- copyistlaw16.MarksBack returns true. -/
import Derived.Test.YtlnpjdihdemgmaaMkS
namespace Go.Proofs.Ytlnpjdihdemgmaa
open Go.RowKit
set_option linter.unusedVariables false

/-- The slice '.slice A l.length c' holds the acts l (nil let in). -/
def ASl (w : World) (A : Option Addr) (l : List Act6) : Prop := 0 < l.length → ∃ bs off, A = some ⟨bs, off, none⟩ ∧ bs < w.heap.size ∧ ∀ (i : Nat) (a : Act6), l[i]? = some a → ActAt w bs (off + i * 6) a
theorem ActsAt.asl {w : World} {sv : Value} {l : List Act6} (h : ActsAt w sv l) : ∃ A cap, sv = .slice A l.length cap ∧ l.length ≤ 9223372036854775807 ∧ ASl w A l := by
  rcases h with ⟨rfl, a, cap, rfl⟩ | ⟨b, off, cap, rfl, hp, hc, hm, hb, hA⟩
  · exact ⟨a, cap, rfl, by simp, fun h => by simp at h⟩
  · exact ⟨_, cap, rfl, by unfold maxLen at hm; omega, fun _ => ⟨b, off, rfl, hb, hA⟩⟩
theorem ASl.at_ {w w' : World} {A : Option Addr} {l : List Act6} (h : ASl w A l) {i : Nat} (hi : i < l.length) (hb : Below w.heap.size w w') : ∃ bs off act, A = some ⟨bs, off, none⟩ ∧ l[i]? = some act ∧ ActAt w' bs (off + i * 6) act := by
  obtain ⟨bs, off, e, hl, hA⟩ := h (by omega)
  exact ⟨bs, off, _, e, List.getElem?_eq_getElem hi, (hA i _ (List.getElem?_eq_getElem hi)).kept (hb.block bs hl)⟩

set_option maxRecDepth 100000 in
set_option maxHeartbeats 4000000 in
theorem back_true (A : Option Addr) (cap : Nat) (l : List Act6) (at_ k : Int) (ahead : Bool) (w : World) (hA : ASl w A l) (hlm : l.length ≤ 9223372036854775807) :
    Calls Try.prog 7 #[.slice A l.length cap, .int .i64 at_, .int .i64 k, .bool ahead] w fun e w' => e = .returned (.bool true) ∧ Below w.heap.size w w' := by
  by_cases hl : l.length ≤ 60
  · have hl' : (l.length : Int) ≤ 60 := by omega
    go_enter Try.func7, Try.ntmps7
    go_wp2_with fail
    refine (lives_true w).mono ?_
    rintro e w1 ⟨rfl, hB1⟩
    go_wp2_with fail
    refine (new_any w1).mono ?_
    rintro e w2 ⟨rfl, h2, hB2, hz2⟩
    have hBw := up2 hB1 hB2
    have hle := hB1.size
    clear hB1 hB2
    go_wp2_with fail
    go_loopw [10] (fun vi wz => ∃ (j : Nat) (m : List (Int × Mk)) (n : Int), j ≤ l.length ∧ vi = .int .i64 j ∧ DoInv m n j ∧ MarksAt wz (w1.heap.size + 1) w1.heap.size m n ∧ Below w.heap.size w wz) (fun vi _ => l.length - (intOf vi).toNat)
    case atStart => exact ⟨0, [], 0, by omega, rfl, DoInv.start, h2, hBw⟩
    case round =>
      clear h2 hBw hz2
      obtain ⟨j, m, n, hj, rfl, hi, hm, hbw⟩ := hrel
      have hn0 := hi.n0
      have hn1 := hi.n1
      have hml := hi.len
      by_cases hlt : j < l.length
      · obtain ⟨bs, off, act, rfl, hact, k0, k1, k2, k3, k4, k5⟩ := hA.at_ hlt hbw
        have hst := hi.step hm.ids act
        have hlt' : (j : Int) < l.length := by omega
        clear hact
        go_wp2_with fail
        refine (do_any hm act hn0 (by omega)).mono ?_
        rintro e w5 ⟨rfl, h5, ho5⟩
        go_wp2_with fail
        exact ⟨⟨j + 1, _, _, by omega, by go_num, hst, h5, Only.fin hbw ho5 (by omega) (by omega)⟩, by simp [intOf]; omega⟩
      · have hjl : j = l.length := by omega
        subst hjl
        clear hlt
        go_wp2_with fail
        refine (all_any hm hi.asc (by omega) (by omega)).mono ?_
        rintro e w5 ⟨v5, rfl, hown5, hb5⟩
        have hm5 := hm.up hb5
        have hbw5 := up2 hbw hb5
        have hlt1 := hm.lt
        have hlt2 := hm.im.lt
        have hz5 := hb5.size
        have hza := hbw.size
        clear hm hbw
        go_wp2_with fail
        refine (ins_all hm5 at_ k ahead).mono ?_
        rintro e w6 ⟨rfl, h6, ho6⟩
        have hown6 : ROwn encK 47 3 wr.heap.size w6 v5 m := hown5.kept fun g hg => ho6.block g (hown5.lt hg) (fun hs => by have := hown5.base hg; rcases hs with rfl | rfl <;> omega)
        have hbw6 := Only.fin hbw5 ho6 (by omega) (by omega)
        have hz6 := ho6.size
        clear hm5 hown5 ho6 hbw5
        rcases ins_cases m n at_ k ahead with ⟨c1, c2, c3⟩ | ⟨c1, c2, c3, c4, c5⟩
        · rw [c2, c3] at h6
          generalize (insR m n at_ k ahead).err = er at *
          have her : (er != 0) = true := by simpa using c1
          clear c1 c2 c3
          go_wp2_with fail
          refine (all_any h6 hi.asc (by omega) (by omega)).mono ?_
          rintro e w7 ⟨v7, rfl, hown7, hb7⟩
          have hown67 := hown6.up hb7
          obtain ⟨A5, cp5, rfl, hA51, hA52, hAs5⟩ := hown67.shape eltK
          obtain ⟨A7, cp7, rfl, hA71, hA72, hAs7⟩ := hown7.shape eltK
          go_wp2_with fail
          refine (sameK_true cp7 cp5 hAs7 hAs5 (by omega)).mono ?_
          rintro e w8 ⟨rfl, hb8⟩
          go_wp2_with fail
          go_ret
          exact ⟨rfl, up2 (up2 hbw6 hb7) hb8⟩
        · rw [c1] at h6 ⊢
          clear c1
          dsimp only at h6 ⊢
          by_cases hfit : at_ ≤ 1099511627776 - k
          · have hdel : delOk at_ (at_ + k) = true := by simp [delOk, placeI]; omega
            go_wp2_with fail
            refine (deleted_ok h6 at_ (at_ + k) hdel).mono ?_
            rintro e w7 ⟨rfl, h7, ho7⟩
            rw [ins_del at_ k ahead c4 m] at h7
            clear hdel
            have hown7 : ROwn encK 47 3 wr.heap.size w7 v5 m := hown6.kept fun g hg => ho7.block g (hown6.lt hg) (fun hs => by have := hown6.base hg; rcases hs with rfl | rfl <;> omega)
            have hbw7 := Only.fin hbw6 ho7 (by omega) (by omega)
            clear h6 hown6 ho7 hbw6
            go_wp2_with fail
            refine (all_any h7 hi.asc (by omega) (by omega)).mono ?_
            rintro e w8 ⟨v8, rfl, hown8, hb8⟩
            have hown78 := hown7.up hb8
            obtain ⟨A5, cp5, rfl, hA51, hA52, hAs5⟩ := hown78.shape eltK
            obtain ⟨A7, cp7, rfl, hA71, hA72, hAs7⟩ := hown8.shape eltK
            go_wp2_with fail
            refine (sameK_true cp7 cp5 hAs7 hAs5 (by omega)).mono ?_
            rintro e w9 ⟨rfl, hb9⟩
            go_wp2_with fail
            go_ret
            exact ⟨rfl, up2 (up2 hbw7 hb8) hb9⟩
          · have hfit' : 1099511627776 - k < at_ := by omega
            clear hfit
            go_wp2_with fail
            go_ret
            exact ⟨rfl, hbw6⟩
  · have hl' : (60 : Int) < l.length := by omega
    go_enter Try.func7, Try.ntmps7
    go_wp2_with fail
    refine (lives_true w).mono ?_
    rintro e w1 ⟨rfl, hB1⟩
    go_wp2_with fail
    go_ret
    exact ⟨rfl, hB1⟩
end Go.Proofs.Ytlnpjdihdemgmaa
