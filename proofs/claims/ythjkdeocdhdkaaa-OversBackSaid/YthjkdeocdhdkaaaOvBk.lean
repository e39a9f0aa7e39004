/- copyistlaw18.OversBack returns true. -/
import Derived.Test.YthjkdeocdhdkaaaOvAk
namespace Go.Proofs.Ythjkdeocdhdkaaa
open Go.RowKit
set_option linter.unusedVariables false
set_option linter.unusedSimpArgs false
set_option maxRecDepth 100000 in
set_option maxHeartbeats 4000000 in
theorem back18_some (A : Option Addr) (cap : Nat) (l : List Act18) (at_ n : Int) (w : World) (hl : l.length ≤ 60) (hA : RSl encA w A l) :
    Calls Try.prog 5 #[.slice A l.length cap, .int .i64 at_, .int .i64 n] w fun e w' => e = .returned (.bool true) ∧ Below w.heap.size w w' := by
  have HA := Lib.hid hA
  clear hA
  have hl' : (l.length : Int) ≤ 60 := by omega
  go_enter Try.func5, Try.ntmps5
  go_wp2_with fail
  refine (lives_true w).mono ?_
  rintro e w1 ⟨rfl, hB1⟩
  go_wp2_with fail
  refine (s_new 1 (-1) w1).mono ?_
  rintro e w2 ⟨ob, rfl, s2, hB2⟩
  have HST := Lib.hid (ActSt.start s2 hB2 hB1)
  clear s2 hB1 hB2
  go_wp2_with fail
  go_loopw [8] (fun vi wz => ∃ (j : Nat) (D : List OverD) (nx : Int), j ≤ l.length ∧ vi = .int .i64 j ∧ ActSt w wz ob 1 (-1) D nx j) (fun vi _ => l.length - (intOf vi).toNat)
  case atStart => exact ⟨0, [], 0, by omega, rfl, HST.out⟩
  case round =>
    clear HST
    obtain ⟨j, D, nx, hj, rfl, hst⟩ := hrel
    by_cases hlt : j < l.length
    · obtain ⟨⟨ki, id, af, at1, anm, an, afr, are, avk, avn⟩, hact⟩ : ∃ x, l[j]? = some x := ⟨_, List.getElem?_eq_getElem hlt⟩
      obtain ⟨g, o, hAe, hg, hcs⟩ := (HA.out.up hst.bel).at_ eltA hact
      have k0 := hcs 0 _ rfl
      have k1 := hcs 1 _ rfl
      have k2 := hcs 2 _ rfl
      have k3 := hcs 3 _ rfl
      have k4 := hcs 4 _ rfl
      have k5 := hcs 5 _ rfl
      have k6 := hcs 6 _ rfl
      have k7 := hcs 7 _ rfl
      have k8 := hcs 8 _ rfl
      have k9 := hcs 9 _ rfl
      simp only [← Nat.add_assoc, Nat.add_zero] at k0 k1 k2 k3 k4 k5 k6 k7 k8 k9
      have hlt' : (j : Int) < l.length := by omega
      have HDO := Lib.hid (act_do hst ⟨ki, id, af, at1, anm, an, afr, are, avk, avn⟩ (by omega))
      clear hact hcs hst hg
      subst hAe
      go_wp2_with fail
      refine HDO.out.mono ?_
      rintro e w5 ⟨gv, rfl, h5⟩
      have H5 := Lib.hid h5
      clear h5 HDO
      go_wp2_with fail
      exact ⟨⟨j + 1, _, _, by omega, by go_num, H5.out⟩, by simp [intOf]; omega⟩
    · obtain rfl : j = l.length := by omega
      clear hlt
      have hwf := hst.wf
      go_wp2_with fail
      refine (st_all hst.st hwf).mono ?_
      rintro e w5 ⟨v5, M5, rfl, ha5, hb5⟩
      have hst5 := hst.up hb5
      have hz := hst.bel.size
      have hz5 := hb5.size
      obtain ⟨hS, hT⟩ : ∃ S : Nat → Prop, OSt w5 ob 1 (-1) D nx S ∧ (∀ k, S k → w.heap.size ≤ k ∧ k < wr.heap.size) := ⟨_, hst.st.tight'.up hb5, fun k hk => hk⟩
      obtain ⟨s5, hS5⟩ := hT
      have HA5 := Lib.hid ha5
      have HW := Lib.hid hwf
      have HB5 := Lib.hid hst5.bel
      clear hst hst5 ha5 hb5
      have HINS := Lib.hid (s_ins s5 hwf at_ n)
      have HWI := Lib.hid (wf_ins hwf at_ n)
      clear hwf s5
      go_wp2_with fail
      refine HINS.out.mono ?_
      rintro e w6 ⟨rfl, S6, s6, on6, hS6⟩
      have ha6 := HA5.out.only on6 (fun k hk => (hS5 k hk).2)
      have hb6 : Below w.heap.size w w6 := HB5.out.trans (on6.below (by have := HB5.out.size; omega) fun k hk => (hS5 k hk).1)
      have hz6 := on6.size
      have hS6' : ∀ k, S6 k → w.heap.size ≤ k ∧ (k < wr.heap.size ∨ w5.heap.size ≤ k) := fun k hk => by
        rcases hS6 k hk with h | h
        · exact ⟨(hS5 k h).1, .inl (hS5 k h).2⟩
        · exact ⟨by omega, .inr h⟩
      have HA6 := Lib.hid ha6
      have HB6 := Lib.hid hb6
      have HS6 := Lib.hid hS6'
      have HO6 := Lib.hid s6
      clear HINS HB5 ha6 hb6 on6 hS6 hS5 s6 hS6'
      rcases ins_cases18 D at_ n with ⟨c1, c2⟩ | ⟨c1, c2, c3, c4, c5, c6⟩
      · rw [c2] at HO6
        have her : (insE D at_ n != 0) = true := by simpa using c1
        clear c1 c2 HWI
        go_wp2_with fail
        refine (st_all HO6.out HW.out).mono ?_
        rintro e w7 ⟨v7, M7, rfl, ha7, hb7⟩
        have HSM := Lib.hid (all_same HW.out ha7 (HA6.out.up hb7))
        have HB7 := Lib.hid (up2 HB6.out hb7)
        clear ha7 hb7
        go_wp2_with fail
        refine HSM.out.mono ?_
        rintro e w8 ⟨rfl, hb8⟩
        go_wp2_with fail
        go_ret
        exact ⟨rfl, up2 HB7.out hb8⟩
      · rw [c1]
        rw [c2] at HO6 HWI
        clear c1 c2
        have hw1 : IntKind.i64.wrap (1099511627776 - n) = 1099511627776 - n := IntWalk.i64_in _ (by omega)
        by_cases hfit : at_ ≤ 1099511627776 - n
        · obtain ⟨d1, d2, d3⟩ := ins_back HW.out c3 c5 hfit
          have HDEL := Lib.hid (s_del HO6.out HWI.out at_ (at_ + n))
          rw [d1, d2, d3] at HDEL
          have hw2 : IntKind.i64.wrap (at_ + n) = at_ + n := IntWalk.i64_in _ (by omega)
          clear d1 d2 d3 HO6
          go_wp2_with fail
          refine HDEL.out.mono ?_
          rintro e w7 ⟨gv, rfl, og, S7, s7, on7, hS7⟩
          obtain ⟨Ag, cg, rfl, _, _, _⟩ := og.shape eltI
          have hb7 : Below w.heap.size w w7 := HB6.out.trans (on7.below (by have := HB6.out.size; omega) fun k hk => (HS6.out k hk).1)
          have ha7 : AllAt wr.heap.size w7 v5 M5 D :=
             HA5.out.only2 HA6.out on7 fun k hk => (HS6.out k hk).2
          have HO7 := Lib.hid s7
          have HA7 := Lib.hid ha7
          have HB7 := Lib.hid hb7
          clear HDEL og on7 hS7 s7 hb7 ha7
          go_wp2_with fail
          refine (st_all HO7.out HW.out).mono ?_
          rintro e w8 ⟨v8, M8, rfl, ha8, hb8⟩
          have HSM := Lib.hid (all_same HW.out ha8 (HA7.out.up hb8))
          have HB8 := Lib.hid (up2 HB7.out hb8)
          clear ha8 hb8
          go_wp2_with fail
          refine HSM.out.mono ?_
          rintro e w9 ⟨rfl, hb9⟩
          go_wp2_with fail
          go_ret
          exact ⟨rfl, up2 HB8.out hb9⟩
        · have hfit' : 1099511627776 - n < at_ := by omega
          clear hfit
          go_wp2_with fail
          go_ret
          exact ⟨rfl, HB6.out⟩
set_option maxRecDepth 100000 in
set_option maxHeartbeats 1000000 in
theorem back18_many (A : Option Addr) (cap ln : Nat) (at_ n : Int) (w : World) (hl : 60 < ln) (hm : ln ≤ maxLen) :
    Calls Try.prog 5 #[.slice A ln cap, .int .i64 at_, .int .i64 n] w fun e w' => e = .returned (.bool true) ∧ Below w.heap.size w w' := by
  unfold maxLen at hm
  have hl' : (60 : Int) < (ln : Int) := by omega
  go_enter Try.func5, Try.ntmps5
  go_wp2_with fail
  refine (lives_true w).mono ?_
  rintro e w1 ⟨rfl, hB1⟩
  go_wp2_with fail
  go_ret
  exact ⟨rfl, hB1⟩
theorem back18_walk (A : Option Addr) (ln cap : Nat) (at_ n : Int) (l : List Act18) (w : World) (h : l.length = ln ∧ ln ≤ maxLen ∧ RSl encA w A l) :
    Calls Try.prog 5 #[.slice A ln cap, .int .i64 at_, .int .i64 n] w fun e w' => e = .returned (.bool true) ∧ Below w.heap.size w w' := by
  obtain ⟨rfl, hm, hA⟩ := h
  by_cases hl : l.length ≤ 60
  · exact back18_some A cap l at_ n w hl hA
  · exact back18_many A cap l.length at_ n w (by omega) hm
end Go.Proofs.Ythjkdeocdhdkaaa
