/- The reference's Inserted. -/
import Derived.Test.YtlnpjdihdemgmaaMrE
namespace Go.Proofs.Ytlnpjdihdemgmaa
open Go.RowKit
set_option linter.unusedVariables false
variable {B bo : Nat} {v : Value} {m : List (Int × Mk)} {n : Int} {w w' : World}

set_option maxRecDepth 100000 in
set_option maxHeartbeats 4000000 in
theorem rins_all (h : RefAt B w bo v m n) (hat : ∀ p ∈ m, 1 ≤ p.2.1 ∧ p.2.1 ≤ 1099511627776) (a k_ : Int) (ahead : Bool) (hl : m.length ≤ 1000000) : Calls Try.prog 51 #[.pointer (some ⟨bo, 0, none⟩), .int .i64 a, .int .i64 k_, .bool ahead] w (RPost1 B w bo (insR m n a k_ ahead)) := by
  by_cases hp : placeI a = false
  · rw [show insR m n a k_ ahead = ⟨m, n, 0, 3⟩ by unfold insR; rw [if_pos hp]]
    have H := Lib.hid h
    clear h
    go_enter Try.func51, Try.ntmps51
    go_wp2_with (go_at_call 61; refine (rplace_any _ _).mono ?_; rintro e w' ⟨rfl, rfl⟩)
    go_ret
    exact ⟨rfl, _, H.out, Only.refl _ _⟩
  · have hp' : placeI a = true := by simpa using hp
    obtain ⟨q1, q2⟩ := placeI_true hp'
    clear hp
    have H := Lib.hid h
    have HAT := Lib.hid hat
    by_cases hk : k_ < 0 ∨ 65536 < k_
    · rw [show insR m n a k_ ahead = ⟨m, n, 0, 2⟩ by unfold insR; rw [if_neg (by rw [hp']; decide), if_pos hk]]
      clear h hat
      rcases hk with hk | hk
      · go_enter Try.func51, Try.ntmps51
        go_wp2_with (go_at_call 61; refine (rplace_any _ _).mono ?_; rintro e w' ⟨rfl, rfl⟩)
        go_ret
        exact ⟨rfl, _, H.out, Only.refl _ _⟩
      · have hk0 : 0 ≤ k_ := by omega
        go_enter Try.func51, Try.ntmps51
        go_wp2_with (go_at_call 61; refine (rplace_any _ _).mono ?_; rintro e w' ⟨rfl, rfl⟩)
        go_ret
        exact ⟨rfl, _, H.out, Only.refl _ _⟩
    · have hk0 : 0 ≤ k_ := by omega
      have hk1 : k_ ≤ 65536 := by omega
      clear hk
      obtain ⟨A, cp, rfl, hA1, hA2, hAs⟩ := h.own.shape eltK
      have hb := below1 w (.cells #[] 47)
      have c0 := (h.up hb).c0
      obtain ⟨v1, w1, happ, hown, hg, _⟩ := append_run eltK (ROwn.empty (enc := encK) (k := 3) w.heap.size w (Nat.le_refl _)) (by simp) (hAs.up hb) cp (by simp; omega) (by omega)
      have hb1 : Below w.heap.size w w1 := hb.grown hg (by simp) (fun k hk => by simp [Value.ownBlock] at hk; omega)
      rw [List.nil_append] at hown
      obtain ⟨A1, cp1, rfl, hA11, hA12, _⟩ := hown.shape eltK
      have HP := Lib.hid happ
      have HO := Lib.hid hown
      clear happ hAs hA1 hA2 hown h hat hg
      go_enter Try.func51, Try.ntmps51
      go_wp2_with (first | (go_at_call 61; refine (rplace_any _ _).mono ?_; rintro e w' ⟨rfl, rfl⟩) | (at_builtin; refine wpList_app_run rfl _ _ _ rfl rfl rfl HP.out ?_))
      clear c0
      go_loopw [10] (fun vi wr => ∃ k : Nat, k ≤ m.length ∧ vi = .int .i64 k ∧ Hid (∀ (j : Nat) (p : Int × Mk), j < k → m[j]? = some p → placeI (insAt a k_ ahead p.2) = true) ∧ ROwn encK 47 3 w.heap.size wr (.slice A1 m.length cp1) (chg (insAt a k_ ahead) m k) ∧ Below w.heap.size w wr) (fun vi _ => m.length - (intOf vi).toNat)
      case atStart => exact ⟨0, by omega, rfl, Lib.hid (fun j p hj => by omega), by rw [chg_zero]; exact HO.out, hb1⟩
      case round =>
        obtain ⟨k, hk, rfl, HB, hr, hbel⟩ := hrel
        by_cases hlt : k < m.length
        · obtain ⟨⟨id, at_, adv⟩, hx⟩ : ∃ x, m[k]? = some x := ⟨_, List.getElem?_eq_getElem hlt⟩
          obtain ⟨a1, a2⟩ := HAT.out _ (List.mem_of_getElem? hx)
          dsimp only at a1 a2
          have hx' := chg_at (f := insAt a k_ ahead) hx
          obtain ⟨g, cap, hve, hc1, hc2, hBg, hgl, hfz, hcs⟩ := hr.lies eltK (by rw [chg_length]; omega)
          rw [chg_length] at hve hfz
          cases hve
          have e0 := hcs k _ 1 _ hx' rfl
          have e1 := hcs k _ 2 _ hx' rfl
          have z0 := hfz (k * 3 + 1) (by omega)
          have hlt' : (k : Int) < m.length := by omega
          have hput := fun (y : Int) => (by
            have hr' := hr
            rw [← chg_length (insAt a k_ ahead) m k] at hr'
            have := hr'.put eltK (y := (id, (y, adv))) (j := 1) (u := .int .i64 y) hx' (by omega) rfl
            rw [chg_length] at this
            exact this : ROwn encK 47 3 w.heap.size (wr.setCell ⟨g, k * 3 + 1, none⟩ (.int .i64 y)) (.slice (some ⟨g, 0, none⟩) m.length cp1) ((chg (insAt a k_ ahead) m k).set k (id, (y, adv))))
          have hsc : chg (insAt a k_ ahead) m (k + 1) = (chg (insAt a k_ ahead) m k).set k (id, (insAt a k_ ahead (at_, adv), adv)) := chg_succ hx
          have hbad : placeI (insAt a k_ ahead (at_, adv)) = false → m.all (fun p => placeI (insAt a k_ ahead p.2)) ≠ true := fun hf hall => by
            have := List.all_eq_true.1 hall _ (List.mem_of_getElem? hx)
            dsimp only at this
            rw [hf] at this; cases this
          have hgood : placeI (insAt a k_ ahead (at_, adv)) = true → Hid (∀ (j : Nat) (p : Int × Mk), j < k + 1 → m[j]? = some p → placeI (insAt a k_ ahead p.2) = true) := fun hf => Lib.hid (fun j p hj hjp => by
            rcases Nat.lt_or_ge j k with hjk | hjk
            · exact HB.out j p hjk hjp
            · have : j = k := by omega
              subst this
              rw [hx] at hjp; cases hjp; exact hf)
          have hsame : insAt a k_ ahead (at_, adv) = at_ → chg (insAt a k_ ahead) m (k + 1) = chg (insAt a k_ ahead) m k := fun hf => chg_same hx hf
          have HS := Lib.hid hsc
          have HU := Lib.hid hput
          have HRr := Lib.hid hr
          have HBad := Lib.hid hbad
          have HGood := Lib.hid hgood
          have HSame := Lib.hid hsame
          clear hfz hcs hx hx' hsc hput hbad hgood hsame hr
          by_cases c1 : a < at_
          · have hd : insAt a k_ ahead (at_, adv) = at_ + k_ := by unfold insAt; rw [if_pos (.inl c1)]
            have HD := Lib.hid hd
            by_cases hpl : placeI (at_ + k_) = true
            · have hg2 := HGood.out (by rw [HD.out]; exact hpl)
              clear hd
              go_wp2_with (go_at_call 61; refine (rplace_any _ _).mono ?_; rintro e w' ⟨rfl, rfl⟩)
              go_roundw
              case rel => exact ⟨k + 1, by omega, by go_num, hg2, by rw [HS.out, HD.out]; exact HU.out _, hbel.setCell (p := ⟨g, k * 3 + 1, none⟩) hBg _⟩
              case measure => simp [intOf]; omega
            · have hpl' : placeI (at_ + k_) = false := by simpa using hpl
              have hba := HBad.out (by rw [HD.out]; exact hpl')
              have HBA := Lib.hid hba
              clear hd hpl hba
              go_wp2_with (go_at_call 61; refine (rplace_any _ _).mono ?_; rintro e w' ⟨rfl, rfl⟩)
              go_ret
              rw [show insR m n a k_ ahead = ⟨m, n, 0, 3⟩ by unfold insR; rw [if_neg (by rw [hp']; decide), if_neg (by omega), if_neg HBA.out]]
              have hb9 := hbel.setCell (p := ⟨g, k * 3 + 1, none⟩) hBg (.int .i64 (at_ + k_))
              exact ⟨rfl, _, H.out.up hb9, Only.of_below hb9⟩
          · have c1' : at_ ≤ a := by omega
            by_cases c2 : at_ = a
            · cases ahead with
              | true =>
                have hd : insAt a k_ true (at_, adv) = at_ + k_ := by unfold insAt; rw [if_pos (.inr ⟨c2, .inl rfl⟩)]
                have c2' : (at_ == a) = true := by simpa using c2
                clear c2 c1
                have HD := Lib.hid hd
                by_cases hpl : placeI (at_ + k_) = true
                · have hg2 := HGood.out (by rw [HD.out]; exact hpl)
                  clear hd
                  go_wp2_with (go_at_call 61; refine (rplace_any _ _).mono ?_; rintro e w' ⟨rfl, rfl⟩)
                  go_roundw
                  case rel => exact ⟨k + 1, by omega, by go_num, hg2, by rw [HS.out, HD.out]; exact HU.out _, hbel.setCell (p := ⟨g, k * 3 + 1, none⟩) hBg _⟩
                  case measure => simp [intOf]; omega
                · have hpl' : placeI (at_ + k_) = false := by simpa using hpl
                  have hba := HBad.out (by rw [HD.out]; exact hpl')
                  have HBA := Lib.hid hba
                  clear hd hpl hba
                  go_wp2_with (go_at_call 61; refine (rplace_any _ _).mono ?_; rintro e w' ⟨rfl, rfl⟩)
                  go_ret
                  rw [show insR m n a k_ true = ⟨m, n, 0, 3⟩ by unfold insR; rw [if_neg (by rw [hp']; decide), if_neg (by omega), if_neg HBA.out]]
                  have hb9 := hbel.setCell (p := ⟨g, k * 3 + 1, none⟩) hBg (.int .i64 (at_ + k_))
                  exact ⟨rfl, _, H.out.up hb9, Only.of_below hb9⟩
              | false =>
                cases adv with
                | true =>
                  have hd : insAt a k_ false (at_, true) = at_ + k_ := by unfold insAt; rw [if_pos (.inr ⟨c2, .inr rfl⟩)]
                  have c2' : (at_ == a) = true := by simpa using c2
                  clear c2 c1
                  have HD := Lib.hid hd
                  by_cases hpl : placeI (at_ + k_) = true
                  · have hg2 := HGood.out (by rw [HD.out]; exact hpl)
                    clear hd
                    go_wp2_with (go_at_call 61; refine (rplace_any _ _).mono ?_; rintro e w' ⟨rfl, rfl⟩)
                    go_roundw
                    case rel => exact ⟨k + 1, by omega, by go_num, hg2, by rw [HS.out, HD.out]; exact HU.out _, hbel.setCell (p := ⟨g, k * 3 + 1, none⟩) hBg _⟩
                    case measure => simp [intOf]; omega
                  · have hpl' : placeI (at_ + k_) = false := by simpa using hpl
                    have hba := HBad.out (by rw [HD.out]; exact hpl')
                    have HBA := Lib.hid hba
                    clear hd hpl hba
                    go_wp2_with (go_at_call 61; refine (rplace_any _ _).mono ?_; rintro e w' ⟨rfl, rfl⟩)
                    go_ret
                    rw [show insR m n a k_ false = ⟨m, n, 0, 3⟩ by unfold insR; rw [if_neg (by rw [hp']; decide), if_neg (by omega), if_neg HBA.out]]
                    have hb9 := hbel.setCell (p := ⟨g, k * 3 + 1, none⟩) hBg (.int .i64 (at_ + k_))
                    exact ⟨rfl, _, H.out.up hb9, Only.of_below hb9⟩
                | false =>
                  have hd : insAt a k_ false (at_, false) = at_ := by unfold insAt; rw [if_neg (by simp; omega)]
                  have c2' : (at_ == a) = true := by simpa using c2
                  clear c2 c1
                  have HD := Lib.hid hd
                  have hpl : placeI at_ = true := by simp [placeI]; omega
                  have hg2 := HGood.out (by rw [HD.out]; exact hpl)
                  clear hd
                  go_wp2_with (go_at_call 61; refine (rplace_any _ _).mono ?_; rintro e w' ⟨rfl, rfl⟩)
                  go_roundw
                  case rel => exact ⟨k + 1, by omega, by go_num, hg2, by rw [HSame.out HD.out]; exact HRr.out, hbel⟩
                  case measure => simp [intOf]; omega
            · have hd : insAt a k_ ahead (at_, adv) = at_ := by unfold insAt; rw [if_neg (fun hh => by rcases hh with hh | hh; exact c1 hh; exact c2 hh.1)]
              have c2' : (at_ == a) = false := by simpa using c2
              clear c2 c1
              have HD := Lib.hid hd
              have hpl : placeI at_ = true := by simp [placeI]; omega
              have hg2 := HGood.out (by rw [HD.out]; exact hpl)
              clear hd
              go_wp2_with (go_at_call 61; refine (rplace_any _ _).mono ?_; rintro e w' ⟨rfl, rfl⟩)
              go_roundw
              case rel => exact ⟨k + 1, by omega, by go_num, hg2, by rw [HSame.out HD.out]; exact HRr.out, hbel⟩
              case measure => simp [intOf]; omega
        · have hkl : k = m.length := by omega
          subst hkl
          have hall : m.all (fun p => placeI (insAt a k_ ahead p.2)) = true := List.all_eq_true.2 fun p hp => by
            obtain ⟨j, hj⟩ := List.getElem?_of_mem hp
            exact HB.out j p (List.getElem?_eq_some_iff.1 hj).1 hj
          have HALL := Lib.hid hall
          have h9 := H.out.up hbel
          have d0 := h9.c0
          have d1 := h9.c1
          have g0 := h9.f0
          have g1 := h9.f1
          rw [chg_all] at hr
          have hr9 := RefAt.setL d0 d1 g0 g1 (hr.low H.out.le) h9.lo h9.le
          have HR := Lib.hid hr9
          clear hall hr hr9 h9 hlt
          go_wp2_with fail
          go_ret
          rw [show insR m n a k_ ahead = ⟨insM_ a k_ ahead m, n, 0, 0⟩ by unfold insR; rw [if_neg (by rw [hp']; decide), if_neg (by omega), if_pos HALL.out]]
          exact ⟨rfl, _, HR.out, (Only.of_below hbel).setCell (p := ⟨bo, 0, none⟩) (.inl rfl) _⟩
end Go.Proofs.Ytlnpjdihdemgmaa
