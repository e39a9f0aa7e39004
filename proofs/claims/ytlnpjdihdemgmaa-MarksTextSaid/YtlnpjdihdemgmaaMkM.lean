/- copyistlaw16.MarksText returns true. -/
import Derived.Test.YtlnpjdihdemgmaaMkL
import Derived.Test.YtlnpjdihdemgmaaMkI
import Derived.Test.YtlnpjdihdemgmaaRow
namespace Go.Proofs.Ytlnpjdihdemgmaa
open Go.RowKit
set_option linter.unusedVariables false

set_option maxRecDepth 100000 in
set_option maxHeartbeats 4000000 in
theorem text_some (size0 at0 : Int) (on : Bool) (bs off cap : Nat) (l : List Act6) (w : World) (hl : l.length ≤ 60) (hcap : l.length ≤ cap) (hcm : cap ≤ maxLen) (hb : bs < w.heap.size)
    (hA : ∀ (i : Nat) (a : Act6), l[i]? = some a → ActAt w bs (off + i * 6) a) :
    Calls Try.prog 3 #[.int .i64 size0, .int .i64 at0, .bool on, .slice (some ⟨bs, off, none⟩) l.length cap] w fun e w' => e = .returned (.bool true) ∧ Below w.heap.size w w' := by
  unfold maxLen at hcm
  have HA := Lib.hid hA
  clear hA
  have hl' : (l.length : Int) ≤ 60 := by omega
  obtain ⟨p0, p1⟩ := pick_pos size0 200 (by omega)
  obtain ⟨p2, p3⟩ := pick_pos at0 (pickI size0 200 + 1) (by omega)
  go_enter Try.func3, Try.ntmps3
  go_wp2_with fail
  refine (lives_true w).mono ?_
  rintro e w1 ⟨rfl, hB1⟩
  go_wp2_with (go_at_call 12; refine (pick_any _ _ _ (by omega) (by omega)).mono ?_; rintro e w' ⟨rfl, rfl⟩)
  refine (new_any w1).mono ?_
  rintro e w2 ⟨rfl, h2, hB2, hz2⟩
  have hBw := up2 hB1 hB2
  have hle := hB1.size
  clear hB1 hB2
  have hpl : placeI (1 + pickI at0 (pickI size0 200 + 1)) = true := by simp [placeI]; omega
  generalize hsz : pickI size0 200 = sz at *
  generalize hat : 1 + pickI at0 (sz + 1) = a at *
  have ha1 : 1 ≤ a := by omega
  have ha2 : a ≤ sz + 1 := by omega
  clear p2 p3 hsz hat
  go_wp2_with fail
  refine (add_ok h2 a on hpl (by simp) (by decide) (by decide)).mono ?_
  rintro e w3 ⟨rfl, h3, ho3⟩
  have hBw3 := Only.fin hBw ho3 (by omega) (by omega)
  have hz3 : w1.heap.size + 2 ≤ w3.heap.size := by have := ho3.size; omega
  clear h2 hBw ho3 hz2
  obtain ⟨n, rfl⟩ := Int.eq_ofNat_of_zero_le p0
  go_wp2_with fail
  go_loopw [12, 13] (fun vt vi wr => ∃ k : Nat, k ≤ n ∧ vi = .int .i64 k ∧ IOwn w3.heap.size wr vt (upTo k) ∧ Below w3.heap.size w3 wr) (fun _ vi _ => n - (intOf vi).toNat)
  case atStart => exact ⟨0, by omega, rfl, IOwn.nil _ _, Below.refl _ _⟩
  case round =>
    obtain ⟨k, hk, rfl, hown, hbel⟩ := hrel
    have hsz2 := hbel.size
    by_cases hlt : k < n
    · obtain ⟨v', w', happ, hown', hb'⟩ := append_one hown (by omega) (k : Int) (by rw [upTo_length]; omega)
      rw [← upTo_succ] at hown'
      have hi : (k : Int) < (n : Int) := by omega
      have HP := Lib.hid happ
      clear happ
      go_wp2_with (at_builtin; refine wpList_append_run rfl _ _ _ rfl rfl rfl HP.out ?_)
      go_roundw
      case rel => exact ⟨k + 1, by omega, by go_num, hown', hbel.trans hb'⟩
      case measure => simp [intOf]; omega
    · have hkn : k = n := by omega
      subst hkn
      clear hlt
      go_wp2_with fail
      have hmk := h3.up hbel
      have hbw := hBw3.trans (hbel.mono (by omega : w.heap.size ≤ w3.heap.size))
      have hti := tinv_start k a ha1 ha2
      clear h3 hbel hBw3
      have HTI : Hid (TInv (a - 2) (upTo k) a) := hti
      clear hti
      go_loopw [12, 16] (fun vt vi wz => ∃ (j : Nat) (T : List Int) (p : Int), j ≤ l.length ∧ vi = .int .i64 j ∧ IOwn w3.heap.size wz vt T ∧ Hid (TInv (a - 2) T p) ∧ T.length ≤ 200 + 4 * j ∧ MarksAt wz (w1.heap.size + 1) w1.heap.size [(0, (p, on))] 1 ∧ Below w.heap.size w wz ∧ w3.heap.size ≤ wz.heap.size) (fun _ vi _ => l.length - (intOf vi).toNat)
      case atStart => exact ⟨0, upTo k, a, by omega, rfl, hown, HTI, by rw [upTo_length]; omega, hmk, hbw, hsz2⟩
      case round =>
        clear hmk hbw hsz2 HTI hown
        obtain ⟨j, T, p, hj, rfl, hown, HTI, hTl, hmk, hbw, hsz2⟩ := hrel
        by_cases hlt : j < l.length
        · obtain ⟨act, hact⟩ : ∃ act, l[j]? = some act := ⟨_, List.getElem?_eq_getElem hlt⟩
          have hcell := (HA.out j act hact).kept (hbw.block bs hb)
          obtain ⟨k0, k1, k2, k3, k4, k5⟩ := hcell
          have Hact := Lib.hid hact
          clear hact
          obtain ⟨ki, id, at_, tt, nn, on_⟩ := act
          dsimp only at k0 k1 k2 k3 k4 k5
          obtain ⟨A, cp, rfl, hAl, hAm, hAs⟩ := hown.shape
          obtain ⟨r0, r1⟩ := pick_pos ki 8 (by omega)
          obtain ⟨q, hq, hqT⟩ : ∃ q : Nat, pickI at_ ((T.length : Int) + 1) = q ∧ q ≤ T.length := by
            obtain ⟨q0, q1⟩ := pick_pos at_ ((T.length : Int) + 1) (by omega)
            exact ⟨(pickI at_ ((T.length : Int) + 1)).toNat, by omega, by omega⟩
          obtain ⟨d, hd, hdT⟩ : ∃ d : Nat, pickI tt ((T.length : Int) + 2 - (1 + q)) = d ∧ q + d ≤ T.length := by
            obtain ⟨q0, q1⟩ := pick_pos tt ((T.length : Int) + 2 - (1 + q)) (by omega)
            exact ⟨(pickI tt ((T.length : Int) + 2 - (1 + q))).toNat, by omega, by omega⟩
          obtain ⟨e, he, heT⟩ : ∃ d : Nat, pickI nn 5 = d ∧ d < 5 := by
            obtain ⟨q0, q1⟩ := pick_pos nn 5 (by omega)
            exact ⟨(pickI nn 5).toNat, by omega, by omega⟩
          have hpl1 : placeI (1 + (q : Int)) = true := by simp [placeI]; omega
          have hp0 : placeI p = true := by have := HTI.out.1; have := HTI.out.2.1; simp [placeI]; omega
          go_wp2_with (go_at_call 12; refine (pick_any _ _ _ (by omega) (by omega)).mono ?_; rintro e w' ⟨rfl, rfl⟩)
          · have HD : delOk (1 + (q : Int)) (1 + q + d) = true := by simp [delOk, placeI]; omega
            refine (deleted_ok hmk _ _ HD).mono ?_
            rintro e w5 ⟨rfl, h5, ho5⟩
            clear HD
            have hown5 : IOwn w3.heap.size w5 _ T := hown.kept fun g hg => ho5.block g (hown.lt hg) (fun hs => by have := hown.base hg; rcases hs with rfl | rfl <;> omega)
            have hbw5 := Only.fin hbw ho5 (by omega) (by omega)
            have hz5 : w3.heap.size ≤ w5.heap.size := Nat.le_trans hsz2 ho5.size
            obtain ⟨A', cp', he', hAl', hAm', hAs'⟩ := hown5.shape
            cases he'
            clear hAl' hAm' hown hAs hbw
            go_wp2_with fail
            have hbe : Below w5.heap.size w5 (w5.alloc (.cells #[] 3)) := below1 w5 _
            have hw1 : IntKind.i64.wrap (1 + (q : Int) - 1) = q := by rw [IntWalk.i64_in _ (by omega)]; omega
            have hw2 : IntKind.i64.wrap ((q : Int) + d) = q + d := IntWalk.i64_in _ (by omega)
            have hi1 : (q : Int) ≤ cp := by omega
            have hi2 : (q : Int) + d ≤ T.length := by omega
            have hi3 : 0 ≤ (q : Int) + d := by omega
            have hi4 : ((q : Int) + d).toNat = q + d := by omega
            go_region_law (first | (refine step_app (w0 := w5) (v := .slice (some ⟨w5.heap.size, 0, none⟩) 0 0) (A := A) (n := q) (c := cp) (xs := []) (ys := T.take q) rfl _ _ rfl (by simp [Act.eval]) (IOwn.empty _ w5 (Nat.le_refl _)) (by first | exact hbe | exact hbe.drew | exact hbe.drew.drew | exact hbe.drew.drew.drew) (by simp [Act.eval]) (by simp; omega) (hAs'.take q) (by simp; omega) ?_; intro v7 w7 hown7 hbel7) | (refine step_app (w0 := w5) (v := v7) (A := if cp = q + d then A else A.map (·.add (q + d))) (n := T.length - (q + d)) (c := cp - (q + d)) (xs := [] ++ T.take q) (ys := T.drop (q + d)) rfl _ _ rfl (by simp [Act.eval]) hown7 (by first | exact hbel7 | exact hbel7.drew | exact hbel7.drew.drew) (by simp [Act.eval]) (by simp) (hAs'.drop hdT hAl) (by simp; omega) ?_; intro v8 w8 hown8 hbel8))
            generalize (if cp = q + d then A else A.map (·.add (q + d))) = A7
            have hpd : delAt (1 + (q : Int)) (1 + q + d) (p, on) = delAt (q + 1) (q + 1 + d) (p, on) := by rw [Int.add_comm 1 (q : Int)]
            have HT9 : Hid (TInv (a - 2) ([] ++ T.take q ++ T.drop (q + d)) (delAt (1 + (q : Int)) (1 + q + d) (p, on))) := by rw [hpd]; exact tinv_del HTI.out q d hdT on
            have hl9 : ([] ++ T.take q ++ T.drop (q + d)).length ≤ 200 + 4 * (j + 1) := by simp; omega
            have h9 : MarksAt w8 (w1.heap.size + 1) w1.heap.size [(0, (delAt (1 + (q : Int)) (1 + q + d) (p, on), on))] 1 := h5.up hbel8
            have hown9 := hown8.low hz5
            have hbw9 := up2 hbw5 hbel8
            have hz9 : w3.heap.size ≤ w8.heap.size := Nat.le_trans hz5 hbel8.size
            clear hpd hown8 h5 hbw5 hbel8 hown7 hbel7 hz5 hown5 hAs' HTI hmk ho5 hsz2 hbe
            generalize delAt (1 + (q : Int)) (1 + q + d) (p, on) = p9 at *
            generalize [] ++ T.take q ++ T.drop (q + d) = T9 at *
            obtain ⟨A9, cp9, rfl, hAl9, hAm9, hAs9⟩ := hown9.shape
            have hp1 : 1 ≤ p9 := HT9.out.1
            have hp2 : p9 ≤ (T9.length : Int) + 1 := HT9.out.2.1
            go_wp2_with fail
            refine (at_yes h9 (x := (p9, on)) rfl).mono ?_
            rintro e w10 ⟨rfl, hb10⟩
            have h10 := h9.up hb10
            have hown10 : IOwn w3.heap.size w10 _ T9 := hown9.kept fun g hg => hb10.block g (hown9.lt hg)
            have hAs10 := hAs9.up hb10
            have hbw10 := up2 hbw9 hb10
            have hz10 : w3.heap.size ≤ w10.heap.size := Nat.le_trans hz9 hb10.size
            clear h9 hown9 hAs9 hbw9 hz9 hb10
            go_wp2_with fail

            go_loopw [23] (fun vi wz => ∃ i : Nat, i ≤ T9.length ∧ vi = .int .i64 i ∧ wz = w10) (fun vi _ => T9.length - (intOf vi).toNat)
            case atStart => exact ⟨0, by omega, rfl, rfl⟩
            case round =>
              obtain ⟨i, hi, rfl, rfl⟩ := hrel
              by_cases hlt9 : i < T9.length
              · obtain ⟨z, hz⟩ : ∃ z, T9[i]? = some z := ⟨_, List.getElem?_eq_getElem hlt9⟩
                obtain ⟨g9, o9, rfl, hg9, hc9⟩ := hAs10 (by omega)
                have hc := hc9 i z hz
                have hin := HT9.out.2.2 i z hz
                have HIN := Lib.hid hin
                clear hin hz hc9
                unfold iv at hc
                have hlt9' : (i : Int) < T9.length := by omega
                go_wp2_with fail
                all_goals first
                  | (exfalso; have := HIN.out; omega)
                  | exact ⟨⟨i + 1, by omega, by go_num, by first | trivial | rfl⟩, by simp [intOf]; omega⟩
              · have : i = T9.length := by omega
                subst this
                go_wp2_with fail
                exact ⟨⟨j + 1, T9, p9, by omega, by go_num, hown10, HT9, hl9, h10, hbw10, hz10⟩, by simp [intOf]; omega⟩
          · have hall : ∀ x ∈ [((0 : Int), ((p, on) : Mk))], placeI (insAt (1 + (q : Int)) e on_ x.2) = true := by
              intro x hx
              simp only [List.mem_singleton] at hx
              subst hx
              have := HTI.out.1; have := HTI.out.2.1
              unfold insAt
              dsimp only
              split <;> (simp [placeI]; omega)
            refine (inserted_ok hmk _ _ on_ hpl1 (by omega) (by omega) hall).mono ?_
            rintro e' w5 ⟨rfl, h5, ho5⟩
            clear hall
            have hown5 : IOwn w3.heap.size w5 _ T := hown.kept fun g hg => ho5.block g (hown.lt hg) (fun hs => by have := hown.base hg; rcases hs with rfl | rfl <;> omega)
            have hbw5 := Only.fin hbw ho5 (by omega) (by omega)
            have hz5 : w3.heap.size ≤ w5.heap.size := Nat.le_trans hsz2 ho5.size
            obtain ⟨A', cp', he', hAl', hAm', hAs'⟩ := hown5.shape
            cases he'
            clear hAl' hAm' hown hAs hbw
            go_wp2_with fail
            go_loopw [20] (fun vt wz => ∃ i : Nat, i ≤ e ∧ IOwn w5.heap.size wz vt (rep i) ∧ Below w5.heap.size w5 wz) (fun vt _ => e - slLen vt)
            case atStart => exact ⟨0, by omega, IOwn.nil _ _, Below.refl _ _⟩
            case round =>
              obtain ⟨i, hi, hown6, hbel6⟩ := hrel
              have hsz6 := hbel6.size
              obtain ⟨A6, cp6, hv6, hAl6, hAm6, hAs6⟩ := hown6.shape
              rw [rep_length] at hv6 hAl6
              subst hv6
              by_cases hlt6 : i < e
              · obtain ⟨v', w', happ, hown', hb'⟩ := append_one hown6 (by omega) 1000 (by rw [rep_length]; omega)
                rw [← rep_succ] at hown'
                have hi6 : (i : Int) < (e : Int) := by omega
                have HP := Lib.hid happ
                clear happ
                go_wp2_with (at_builtin; refine wpList_append_run rfl _ _ _ rfl rfl rfl HP.out ?_)
                obtain ⟨A7, cp7, hv7, hAl7, hAm7, hAs7⟩ := hown'.shape
                rw [rep_length] at hv7
                subst hv7
                go_roundw
                case rel => exact ⟨i + 1, by omega, hown', hbel6.trans hb'⟩
                case measure => simp [slLen]; omega
              · have hie : i = e := by omega
                subst hie
                clear hlt6
                have h6 := h5.up hbel6
                have hAs6' := hAs'.up hbel6
                have hbw6 := up2 hbw5 hbel6
                have hz6 : w3.heap.size ≤ wr.heap.size := Nat.le_trans hz5 hsz6
                clear h5 hAs' hbw5 hz5 hown5 hsz6 hbel6 ho5
                obtain ⟨w6, rfl⟩ : ∃ w6 : World, w6 = wr := ⟨_, rfl⟩
                go_wp2_with fail
                have hbe : Below w6.heap.size w6 (w6.alloc (.cells #[] 3)) := below1 w6 _
                have hw1 : IntKind.i64.wrap (1 + (q : Int) - 1) = q := by rw [IntWalk.i64_in _ (by omega)]; omega
                have hi1 : (q : Int) ≤ cp := by omega
                have hi2 : (q : Int) ≤ T.length := by omega
                go_region_law (first | (refine step_app (w0 := w6) (v := .slice (some ⟨w6.heap.size, 0, none⟩) 0 0) (A := A) (n := q) (c := cp) (xs := []) (ys := T.take q) rfl _ _ rfl (by simp [Act.eval]) (IOwn.empty _ w6 (Nat.le_refl _)) (by first | exact hbe | exact hbe.drew | exact hbe.drew.drew | exact hbe.drew.drew.drew) (by simp [Act.eval]) (by simp; omega) (hAs6'.take q) (by simp; omega) ?_; intro v7 w7 hown7 hbel7) | (refine step_app (w0 := w6) (v := v7) (A := A6) (n := i) (c := cp6) (xs := [] ++ T.take q) (ys := rep i) rfl _ _ rfl (by simp [Act.eval]) hown7 (by first | exact hbel7 | exact hbel7.drew | exact hbel7.drew.drew) (by simp [Act.eval]) (rep_length i).symm hAs6 (by rw [rep_length]; simp; omega) ?_; intro v8 w8 hown8 hbel8) | (refine step_app (w0 := w6) (v := v8) (A := if cp = q then A else A.map (·.add q)) (n := T.length - q) (c := cp - q) (xs := [] ++ T.take q ++ rep i) (ys := T.drop q) rfl _ _ rfl (by simp [Act.eval]) hown8 (by first | exact hbel8 | exact hbel8.drew | exact hbel8.drew.drew) (by simp [Act.eval]) (by simp) (hAs6'.drop hqT hAl) (by simp only [List.length_append, rep_length]; simp; omega) ?_; intro v9 w9 hown9 hbel9))
                generalize (if cp = q then A else A.map (·.add q)) = A9x
                have hpd : insAt (1 + (q : Int)) i on_ (p, on) = insAt (q + 1) i on_ (p, on) := by rw [Int.add_comm 1 (q : Int)]
                have HT9 : Hid (TInv (a - 2) ([] ++ T.take q ++ rep i ++ T.drop q) (insAt (1 + (q : Int)) i on_ (p, on))) := by rw [hpd]; exact tinv_ins HTI.out q i hqT on_ on
                have hl9 : ([] ++ T.take q ++ rep i ++ T.drop q).length ≤ 200 + 4 * (j + 1) := by simp only [List.length_append, rep_length]; simp; omega
                have h9 : MarksAt w9 (w1.heap.size + 1) w1.heap.size [(0, (insAt (1 + (q : Int)) i on_ (p, on), on))] 1 := h6.up hbel9
                have hown9' := hown9.low hz6
                have hbw9 := up2 hbw6 hbel9
                have hz9 : w3.heap.size ≤ w9.heap.size := Nat.le_trans hz6 hbel9.size
                clear hpd hown9 h6 hbw6 hbel9 hown7 hbel7 hown8 hbel8 hz6 HTI hmk hsz2 hbe hAs6' hAs6 hown6
                have hown9 := hown9'
                clear hown9'
                generalize insAt (1 + (q : Int)) i on_ (p, on) = p9 at *
                generalize [] ++ T.take q ++ rep i ++ T.drop q = T9 at *
                obtain ⟨A9, cp9, rfl, hAl9, hAm9, hAs9⟩ := hown9.shape
                have hp1 : 1 ≤ p9 := HT9.out.1
                have hp2 : p9 ≤ (T9.length : Int) + 1 := HT9.out.2.1
                go_wp2_with fail
                refine (at_yes h9 (x := (p9, on)) rfl).mono ?_
                rintro e w10 ⟨rfl, hb10⟩
                have h10 := h9.up hb10
                have hown10 : IOwn w3.heap.size w10 _ T9 := hown9.kept fun g hg => hb10.block g (hown9.lt hg)
                have hAs10 := hAs9.up hb10
                have hbw10 := up2 hbw9 hb10
                have hz10 : w3.heap.size ≤ w10.heap.size := Nat.le_trans hz9 hb10.size
                clear h9 hown9 hAs9 hbw9 hz9 hb10
                go_wp2_with fail

                go_loopw [23] (fun vi wz => ∃ i : Nat, i ≤ T9.length ∧ vi = .int .i64 i ∧ wz = w10) (fun vi _ => T9.length - (intOf vi).toNat)
                case atStart => exact ⟨0, by omega, rfl, rfl⟩
                case round =>
                  obtain ⟨i, hi, rfl, rfl⟩ := hrel
                  by_cases hlt9 : i < T9.length
                  · obtain ⟨z, hz⟩ : ∃ z, T9[i]? = some z := ⟨_, List.getElem?_eq_getElem hlt9⟩
                    obtain ⟨g9, o9, rfl, hg9, hc9⟩ := hAs10 (by omega)
                    have hc := hc9 i z hz
                    have hin := HT9.out.2.2 i z hz
                    have HIN := Lib.hid hin
                    clear hin hz hc9
                    unfold iv at hc
                    have hlt9' : (i : Int) < T9.length := by omega
                    go_wp2_with fail
                    all_goals first
                      | (exfalso; have := HIN.out; omega)
                      | exact ⟨⟨i + 1, by omega, by go_num, by first | trivial | rfl⟩, by simp [intOf]; omega⟩
                  · have : i = T9.length := by omega
                    subst this
                    go_wp2_with fail
                    exact ⟨⟨j + 1, T9, p9, by omega, by go_num, hown10, HT9, hl9, h10, hbw10, hz10⟩, by simp [intOf]; omega⟩
        · have hjl : j = l.length := by omega
          subst hjl
          go_wp2_with fail
          go_ret
          exact ⟨rfl, hbw⟩
end Go.Proofs.Ytlnpjdihdemgmaa
