/- copyistlaw18.OversNext returns true. -/
import Derived.Test.YthjkdeocdhdkaaaOvNx
namespace Go.Proofs.Ythjkdeocdhdkaaa
open Go.RowKit
set_option linter.unusedVariables false
set_option linter.unusedSimpArgs false
section
variable {D : List OverD} {at_ m n p : Int}
theorem nxS_le (c : Int) : nxS at_ c m ≤ m := by unfold nxS; split <;> omega
theorem nxS_gt (c : Int) (h : at_ < m) : at_ < nxS at_ c m := by unfold nxS; split <;> omega
theorem nxS_low (c : Int) (h : m ≤ at_) : nxS at_ c m = m := by unfold nxS; rw [if_neg (by omega)]
theorem nxS_c (c : Int) (h : at_ < c) : nxS at_ c m ≤ c := by unfold nxS; split <;> omega
theorem next_le : ∀ (D : List OverD) (m : Int), nextI D at_ m ≤ m
  | [], m => Int.le_refl _
  | x :: D, m => by
    have h1 := next_le D (nxX at_ m x)
    have h2 : nxX at_ m x ≤ m := Int.le_trans (nxS_le x.t) (nxS_le x.f)
    exact Int.le_trans h1 h2
theorem next_gt : ∀ (D : List OverD) (m : Int), at_ < m → at_ < nextI D at_ m
  | [], m, h => h
  | x :: D, m, h => next_gt D (nxX at_ m x) (nxS_gt x.t (nxS_gt x.f h))
theorem next_low : ∀ (D : List OverD) (m : Int), m ≤ at_ → nextI D at_ m = m
  | [], m, h => rfl
  | x :: D, m, h => by
    have e : nxX at_ m x = m := by unfold nxX; rw [nxS_low x.f h, nxS_low x.t h]
    show nextI D at_ (nxX at_ m x) = m
    rw [e]; exact next_low D m h
theorem next_no : ∀ (D : List OverD) (m : Int) (x : OverD), x ∈ D → (at_ < x.f → nextI D at_ m ≤ x.f) ∧ (at_ < x.t → nextI D at_ m ≤ x.t)
  | y :: D, m, x, hx => by
    have e : nextI (y :: D) at_ m = nextI D at_ (nxX at_ m y) := rfl
    rw [e]
    rcases List.mem_cons.1 hx with rfl | hx
    · refine ⟨fun h => Int.le_trans (next_le D _) (Int.le_trans (nxS_le x.t) (nxS_c x.f h)), fun h => Int.le_trans (next_le D _) (nxS_c x.t h)⟩
    · exact next_no D _ x hx
def endB (n most : Int) (D : List OverD) : Bool := (n == most) || D.any (fun x => (x.f == n) || (x.t == n))
theorem nxS_or (c : Int) : nxS at_ c m = m ∨ nxS at_ c m = c := by unfold nxS; split <;> simp
theorem next_ends : ∀ (D : List OverD) (m : Int), nextI D at_ m = m ∨ ∃ x ∈ D, x.f = nextI D at_ m ∨ x.t = nextI D at_ m
  | [], m => .inl rfl
  | y :: D, m => by
    have e : nextI (y :: D) at_ m = nextI D at_ (nxX at_ m y) := rfl
    rw [e]
    rcases next_ends D (nxX at_ m y) with h | ⟨x, hx, h⟩
    · rw [h]
      unfold nxX
      rcases nxS_or (at_ := at_) (m := nxS at_ y.f m) y.t with h1 | h1
      · rw [h1]
        rcases nxS_or (at_ := at_) (m := m) y.f with h2 | h2
        · exact .inl h2
        · exact .inr ⟨y, by simp, .inl h2.symm⟩
      · exact .inr ⟨y, by simp, .inr h1.symm⟩
    · exact .inr ⟨x, by simp [hx], h⟩
theorem end_true (D : List OverD) (m : Int) : endB (nextI D at_ m) m D = true := by
  unfold endB
  rcases next_ends (at_ := at_) D m with h | ⟨x, hx, h⟩
  · simp [h]
  · rw [Bool.or_eq_true]
    right
    rw [List.any_eq_true]
    exact ⟨x, hx, by rcases h with h | h <;> simp [h]⟩
theorem end_step {D : List OverD} {k : Nat} {x : OverD} (hx : D[k]? = some x) (n m : Int) : endB n m (D.take (k + 1)) = (endB n m (D.take k) || ((x.f == n) || (x.t == n))) := by
  unfold endB
  rw [List.take_add_one, hx]
  simp [Bool.or_assoc]
theorem at_between {pr : Int} {D : List OverD} {m p : Int} (h1 : at_ ≤ p) (h2 : p < nextI D at_ m) : atI pr D p = atI pr D at_ := by
  unfold atI
  have : D.filter (covB p) = D.filter (covB at_) := by
    refine List.filter_congr fun x hx => ?_
    obtain ⟨g1, g2⟩ := next_no (at_ := at_) D m x hx
    unfold covB
    rw [Bool.eq_iff_iff]
    simp only [Bool.and_eq_true, decide_eq_true_eq]
    constructor
    · rintro ⟨a, b⟩
      refine ⟨?_, by omega⟩
      rcases Int.lt_or_le at_ x.f with h | h
      · have := g1 h; omega
      · exact h
    · rintro ⟨a, b⟩
      refine ⟨by omega, ?_⟩
      have := g2 b
      omega
  rw [this]
end
set_option maxRecDepth 100000 in
set_option maxHeartbeats 4000000 in
theorem next18_some (A : Option Addr) (cap : Nat) (l : List Act18) (at0 most0 : Int) (w : World) (hl : l.length ≤ 60) (hA : RSl encA w A l) :
    Calls Try.prog 7 #[.slice A l.length cap, .int .i64 at0, .int .i64 most0] w fun e w' => e = .returned (.bool true) ∧ Below w.heap.size w w' := by
  have HA := Lib.hid hA
  clear hA
  have hl' : (l.length : Int) ≤ 60 := by omega
  go_enter Try.func7, Try.ntmps7
  go_wp2_with fail
  refine (lives_true w).mono ?_
  rintro e w1 ⟨rfl, hB1⟩
  go_wp2_with fail
  refine (s_new 1 2 w1).mono ?_
  rintro e w2 ⟨ob, rfl, s2, hB2⟩
  have HST := Lib.hid (ActSt.start s2 hB2 hB1)
  clear s2 hB1 hB2
  go_wp2_with fail
  go_loopw [8] (fun vi wz => ∃ (j : Nat) (D : List OverD) (nx : Int), j ≤ l.length ∧ vi = .int .i64 j ∧ ActSt w wz ob 1 2 D nx j) (fun vi _ => l.length - (intOf vi).toNat)
  case atStart => exact ⟨0, [], 0, by omega, rfl, HST.out⟩
  case round =>
    clear HST
    obtain ⟨j, D, nx, hj, rfl, hst⟩ := hrel
    by_cases hlt : j < l.length
    · obtain ⟨⟨ki, id, af, at_, anm, an, afr, are, avk, avn⟩, hact⟩ : ∃ x, l[j]? = some x := ⟨_, List.getElem?_eq_getElem hlt⟩
      obtain ⟨g, o, hAe, hg, hcs⟩ := (HA.out.up hst.bel).at_ eltA hact
      have k0 := hcs 0 _ rfl
      have k1 := hcs 1 _ rfl
      have k2 := hcs 2 _ rfl
      have k3 := hcs 3 _ rfl
      have k4 := hcs 4 _ rfl
      have k5 := hcs 5 _ rfl
      have k6 := hcs 6 _ rfl
      have k7 := hcs 7 _ rfl
      have k8 := hcs 8 _ rfl
      have k9 := hcs 9 _ rfl
      simp only [← Nat.add_assoc, Nat.add_zero] at k0 k1 k2 k3 k4 k5 k6 k7 k8 k9
      have hlt' : (j : Int) < l.length := by omega
      have HDO := Lib.hid (act_do hst ⟨ki, id, af, at_, anm, an, afr, are, avk, avn⟩ (by omega))
      clear hact hcs hst hg
      subst hAe
      go_wp2_with fail
      refine HDO.out.mono ?_
      rintro e w5 ⟨gv, rfl, h5⟩
      have H5 := Lib.hid h5
      clear h5 HDO
      go_wp2_with fail
      exact ⟨⟨j + 1, _, _, by omega, by go_num, H5.out⟩, by simp [intOf]; omega⟩
    · obtain rfl : j = l.length := by omega
      clear hlt
      have hwf := hst.wf
      obtain ⟨p0, p1⟩ := pick_pos at0 300 (by omega)
      obtain ⟨q0, q1⟩ := pick_pos most0 300 (by omega)
      go_wp2_with fail
      refine (pick_any at0 300 _ (by omega) (by omega)).mono ?_
      rintro e w' ⟨rfl, rfl⟩
      go_wp2_with fail
      refine (pick_any most0 300 _ (by omega) (by omega)).mono ?_
      rintro e w' ⟨rfl, rfl⟩
      generalize pickI at0 300 = at_ at *
      generalize pickI most0 300 = most at *
      go_wp2_with fail
      refine (s_next hst.st hwf at_ most).mono ?_
      rintro e w5 ⟨rfl, hb5⟩
      have hst5 := hst.up hb5
      clear hst hb5
      by_cases hle : most ≤ at_
      · rw [next_low D most hle]
        have HB := Lib.hid hst5.bel
        clear hst5 hwf
        go_wp2_with fail
        go_ret
        exact ⟨rfl, HB.out⟩
      · have hg1 := next_gt (at_ := at_) D most (by omega)
        have hg2 := next_le (at_ := at_) D most
        obtain ⟨n, hn⟩ : ∃ n, n = nextI D at_ most := ⟨_, rfl⟩
        rw [← hn] at hg1 hg2 ⊢
        have HN := Lib.hid hn
        have HWF := Lib.hid hwf
        have HST5 := Lib.hid hst5
        have d1 : decide (most ≤ at_) = false := decide_eq_false hle
        have d2 : decide (n ≤ at_) = false := decide_eq_false (by omega)
        have d3 : decide (most < n) = false := decide_eq_false (by omega)
        clear hn hwf hst5 hle
        go_wp2_with fail
        refine (st_all HST5.out.st HWF.out).mono ?_
        rintro e w6 ⟨v6, M, rfl, ha6, hb6⟩
        have hst6 := HST5.out.up hb6
        obtain ⟨A6, c6, rfl, hA61, hA62, hr6⟩ := ha6.own.shape eltO
        have hMl : M.length = D.length := by have := congrArg List.length ha6.dat; simpa using this
        have hDl := HWF.out.len
        have HD := Lib.hid ha6.dat
        have HR6 := Lib.hid hr6
        have HST6 := Lib.hid hst6
        have HML := Lib.hid hMl
        clear ha6 hb6 hst6 hr6 HST5 hMl
        rw [HML.out]
        go_wp2_with fail
        go_loopw [10, 12] (fun ve vi wz => ∃ k : Nat, k ≤ D.length ∧ vi = .int .i64 k ∧ ve = .bool (endB n most (D.take k)) ∧ wz = w6) (fun _ vi _ => D.length - (intOf vi).toNat)
        case atStart => exact ⟨0, by omega, rfl, by simp [endB], rfl⟩
        case round =>
          obtain ⟨k, hk, rfl, rfl, rfl⟩ := hrel
          by_cases hlt : k < D.length
          · obtain ⟨x, hx⟩ : ∃ x, M[k]? = some x := ⟨_, List.getElem?_eq_getElem (by rw [HML.out]; exact hlt)⟩
            have hdx : D[k]? = some x.dat := by rw [← HD.out, List.getElem?_map, hx]; rfl
            obtain ⟨g, o, hAe, hg, hc⟩ := HR6.out.at_ eltO hx
            have k1 := hc 1 _ rfl
            have k2 := hc 2 _ rfl
            simp only [← Nat.add_assoc, Nat.add_zero] at k1 k2
            have hes := end_step hdx n most
            obtain ⟨n1, n2⟩ := next_no (at_ := at_) D most _ (List.mem_of_getElem? hdx)
            rw [← HN.out] at n1 n2
            obtain ⟨id, f, t, fr, re, xA, xc, xps, xg⟩ := x
            dsimp only [OverE.dat] at k1 k2 hes n1 n2
            have hlt' : (k : Int) < D.length := by omega
            have HES := Lib.hid hes
            have hF : decide (at_ < f) = false ∨ (decide (at_ < f) = true ∧ decide (f < n) = false) := by
              rcases Int.lt_or_le at_ f with h | h
              · exact .inr ⟨decide_eq_true h, decide_eq_false (by have := n1 h; omega)⟩
              · exact .inl (decide_eq_false (by omega))
            have hT : decide (at_ < t) = false ∨ (decide (at_ < t) = true ∧ decide (t < n) = false) := by
              rcases Int.lt_or_le at_ t with h | h
              · exact .inr ⟨decide_eq_true h, decide_eq_false (by have := n2 h; omega)⟩
              · exact .inl (decide_eq_false (by omega))
            generalize hEB : endB n most (D.take k) = eb at *
            clear hx hdx hc hes n1 n2 hEB
            subst hAe
            rcases hF with f1 | ⟨f1, f2⟩ <;> rcases hT with f3 | ⟨f3, f4⟩ <;> cases eb <;> cases hfn : (f == n)
            all_goals
              rw [hfn] at HES
              go_wp2_with fail
              exact ⟨⟨k + 1, by omega, by go_num, by rw [HES.out]; simp, trivial⟩, by simp [intOf]; omega⟩
          · obtain rfl : k = D.length := by omega
            rw [List.take_of_length_le (Nat.le_refl _), HN.out, end_true D most, ← HN.out]
            clear hlt
            go_wp2_with fail
            go_loopw [13] (fun vi wz => ∃ p : Int, at_ ≤ p ∧ p ≤ n ∧ vi = .int .i64 p ∧ ActSt w wz ob 1 2 D nx l.length) (fun vi _ => (n - intOf vi).toNat)
            case atStart => exact ⟨at_, by omega, by omega, rfl, HST6.out⟩
            case round =>
              obtain ⟨p, hp1, hp2, rfl, hst7⟩ := hrel
              by_cases hpn : p < n
              · have hat := at_between (pr := 1) (D := D) (m := most) hp1 (by rw [← HN.out]; exact hpn)
                have HAT := Lib.hid hat
                have HST7 := Lib.hid hst7
                clear hat hst7
                go_wp2_with fail
                refine (s_at HST7.out.st HWF.out p).mono ?_
                rw [HAT.out]
                rintro e w8 ⟨v8, rfl, o8, b8⟩
                have st8 := HST7.out.up b8
                have HST8 := Lib.hid st8
                have HO8 := Lib.hid o8
                clear o8 b8 st8
                go_wp2_with fail
                refine (s_at HST8.out.st HWF.out at_).mono ?_
                rintro e w9 ⟨v9, rfl, o9, b9⟩
                have st9 := HST8.out.up b9
                have o89 := HO8.out.up b9
                obtain ⟨A8, c8, hv8, _, _, r8⟩ := o89.shape eltI
                obtain ⟨A9, c9, hv9, _, _, r9⟩ := o9.shape eltI
                have hll : (atI 1 D at_).length ≤ 1000000 := by
                  have h1 := (sortD_perm 1 (D.filter (covB at_))).length_eq
                  have h2 := List.length_filter_le (covB at_) D
                  have h3 := HWF.out.len
                  unfold atI
                  rw [List.length_map]; omega
                have SM := Lib.hid (same_any r8 r9 c8 c9 hll hll)
                rw [← hv8, ← hv9] at SM
                have HST9 := Lib.hid st9
                simp only [decide_true] at SM
                generalize v8 = v8' at *
                generalize v9 = v9' at *
                clear o9 b9 st9 o89 r8 r9 hll HO8 hv8 hv9
                go_wp2_with fail
                refine SM.out.mono ?_
                rintro e w10 ⟨rfl, b10⟩
                have HST10 := Lib.hid (HST9.out.up b10)
                clear b10
                go_wp2_with fail
                exact ⟨⟨p + 1, by omega, by omega, by go_num, HST10.out⟩, by simp [intOf]; omega⟩
              · have HB := Lib.hid hst7.bel
                have d9 : decide (p < n) = false := decide_eq_false hpn
                clear hst7 hpn
                go_wp2_with fail
                go_ret
                exact ⟨rfl, HB.out⟩
set_option maxRecDepth 100000 in
set_option maxHeartbeats 1000000 in
theorem next18_many (A : Option Addr) (cap ln : Nat) (at0 most0 : Int) (w : World) (hl : 60 < ln) (hm : ln ≤ maxLen) :
    Calls Try.prog 7 #[.slice A ln cap, .int .i64 at0, .int .i64 most0] w fun e w' => e = .returned (.bool true) ∧ Below w.heap.size w w' := by
  unfold maxLen at hm
  have hl' : (60 : Int) < (ln : Int) := by omega
  go_enter Try.func7, Try.ntmps7
  go_wp2_with fail
  refine (lives_true w).mono ?_
  rintro e w1 ⟨rfl, hB1⟩
  go_wp2_with fail
  go_ret
  exact ⟨rfl, hB1⟩
theorem next18_walk (A : Option Addr) (ln cap : Nat) (at0 most0 : Int) (l : List Act18) (w : World) (h : l.length = ln ∧ ln ≤ maxLen ∧ RSl encA w A l) :
    Calls Try.prog 7 #[.slice A ln cap, .int .i64 at0, .int .i64 most0] w fun e w' => e = .returned (.bool true) ∧ Below w.heap.size w w' := by
  obtain ⟨rfl, hm, hA⟩ := h
  by_cases hl : l.length ≤ 60
  · exact next18_some A cap l at0 most0 w hl hA
  · exact next18_many A cap l.length at0 most0 w (by omega) hm
end Go.Proofs.Ythjkdeocdhdkaaa
