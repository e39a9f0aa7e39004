/- The reference's Deleted. -/
import Derived.Test.YtlnpjdihdemgmaaMrD
namespace Go.Proofs.Ytlnpjdihdemgmaa
open Go.RowKit
set_option linter.unusedVariables false

/-- The first k marks moved. -/
def chg (f : Mk → Int) (m : List (Int × Mk)) (k : Nat) : List (Int × Mk) := (m.take k).map (fun p => (p.1, (f p.2, p.2.2))) ++ m.drop k
theorem chg_zero (f : Mk → Int) (m : List (Int × Mk)) : chg f m 0 = m := by simp [chg]
theorem chg_all (f : Mk → Int) (m : List (Int × Mk)) : chg f m m.length = m.map (fun p => (p.1, (f p.2, p.2.2))) := by simp [chg]
theorem chg_length (f : Mk → Int) (m : List (Int × Mk)) (k : Nat) : (chg f m k).length = m.length := by simp [chg]; omega
theorem chg_at {f : Mk → Int} {m : List (Int × Mk)} {k : Nat} {x : Int × Mk} (h : m[k]? = some x) : (chg f m k)[k]? = some x := by
  obtain ⟨h1, h2⟩ := List.getElem?_eq_some_iff.1 h
  unfold chg
  rw [List.getElem?_append_right (by simp; omega)]
  simp [Nat.min_eq_left (Nat.le_of_lt h1), h1, h2]
theorem chg_succ {f : Mk → Int} {m : List (Int × Mk)} {k : Nat} {x : Int × Mk} (h : m[k]? = some x) : chg f m (k + 1) = (chg f m k).set k (x.1, (f x.2, x.2.2)) := by
  obtain ⟨h1, h2⟩ := List.getElem?_eq_some_iff.1 h
  unfold chg
  rw [List.take_succ_eq_append_getElem h1, h2, List.map_append, List.set_append_right _ _ (by simp; omega)]
  have e : (List.map (fun p : Int × Mk => (p.1, (f p.2, p.2.2))) (List.take k m)).length = k := by simp; omega
  rw [e, Nat.sub_self, List.drop_eq_getElem_cons h1, List.set_cons_zero, List.append_assoc]
  rfl
theorem chg_same {f : Mk → Int} {m : List (Int × Mk)} {k : Nat} {x : Int × Mk} (h : m[k]? = some x) (hf : f x.2 = x.2.1) : chg f m (k + 1) = chg f m k := by
  rw [chg_succ h, hf]
  have := chg_at (f := f) h
  obtain ⟨h1, h2⟩ := List.getElem?_eq_some_iff.1 this
  have e : (x.1, (x.2.1, x.2.2)) = (chg f m k)[k] := h2.symm
  rw [e, List.set_getElem_self]

variable {B bo : Nat} {v : Value} {m : List (Int × Mk)} {n : Int} {w w' : World}
set_option maxRecDepth 100000 in
set_option maxHeartbeats 2000000 in
theorem rdel_bad (h : RefAt B w bo v m n) (from_ to : Int) (hp : delOk from_ to = false) : Calls Try.prog 52 #[.pointer (some ⟨bo, 0, none⟩), .int .i64 from_, .int .i64 to] w fun e w' => e = .returned (.int .i64 3) ∧ w = w' := by
  clear h
  by_cases p1 : placeI from_ = true
  · by_cases p2 : placeI to = true
    · have p3 : to < from_ := by simp [delOk, p1, p2] at hp; omega
      clear hp
      go_enter Try.func52, Try.ntmps52
      go_wp2_with (go_at_call 61; refine (rplace_any _ _).mono ?_; rintro e w' ⟨rfl, rfl⟩)
      go_ret
      exact ⟨rfl, rfl⟩
    · have p2' : placeI to = false := by simpa using p2
      clear hp p2
      go_enter Try.func52, Try.ntmps52
      go_wp2_with (go_at_call 61; refine (rplace_any _ _).mono ?_; rintro e w' ⟨rfl, rfl⟩)
      go_ret
      exact ⟨rfl, rfl⟩
  · have p1' : placeI from_ = false := by simpa using p1
    clear hp p1
    go_enter Try.func52, Try.ntmps52
    go_wp2_with (go_at_call 61; refine (rplace_any _ _).mono ?_; rintro e w' ⟨rfl, rfl⟩)
    go_ret
    exact ⟨rfl, rfl⟩

set_option maxRecDepth 100000 in
set_option maxHeartbeats 2000000 in
theorem rdel_all (h : RefAt B w bo v m n) (hat : ∀ p ∈ m, 1 ≤ p.2.1 ∧ p.2.1 ≤ 1099511627776) (from_ to : Int) (hl : m.length ≤ 1000000) : Calls Try.prog 52 #[.pointer (some ⟨bo, 0, none⟩), .int .i64 from_, .int .i64 to] w (RPost1 B w bo (delR m n from_ to)) := by
  unfold delR
  by_cases hp : delOk from_ to = true
  · rw [if_pos hp]
    have p1 : placeI from_ = true := by simp [delOk] at hp; exact hp.1
    have p2 : placeI to = true := by simp [delOk] at hp; exact hp.2.1
    have p3 : from_ ≤ to := by simp [delOk] at hp; exact hp.2.2
    obtain ⟨q1, q2⟩ := placeI_true p1
    obtain ⟨q3, q4⟩ := placeI_true p2
    have HAT := Lib.hid hat
    obtain ⟨A, cp, rfl, hA1, hA2, hAs⟩ := h.own.shape eltK
    unfold maxLen at hA2
    have H := Lib.hid h
    clear hp hat hAs h
    go_enter Try.func52, Try.ntmps52
    go_wp2_with (go_at_call 61; refine (rplace_any _ _).mono ?_; rintro e w' ⟨rfl, rfl⟩)
    go_loopw [7] (fun vi wr => ∃ k : Nat, k ≤ m.length ∧ vi = .int .i64 k ∧ RefAt B wr bo (.slice A m.length cp) (chg (delAt from_ to) m k) n ∧ Only (OwnR bo B) w wr) (fun vi _ => m.length - (intOf vi).toNat)
    case atStart => exact ⟨0, by omega, rfl, by rw [chg_zero]; exact H.out, Only.refl _ _⟩
    case round =>
      obtain ⟨k, hk, rfl, hr, ho⟩ := hrel
      by_cases hlt : k < m.length
      · obtain ⟨⟨id, at_, adv⟩, hx⟩ : ∃ x, m[k]? = some x := ⟨_, List.getElem?_eq_getElem hlt⟩
        obtain ⟨a1, a2⟩ := HAT.out _ (List.mem_of_getElem? hx)
        dsimp only at a1 a2
        have hx' := chg_at (f := delAt from_ to) hx
        obtain ⟨g, cap, hve, hc1, hc2, hBg, hgl, hfz, hcs⟩ := hr.own.lies eltK (by rw [chg_length]; omega)
        rw [chg_length] at hve hfz
        cases hve
        have e0 := hcs k _ 1 _ hx' rfl
        have z0 := hfz (k * 3 + 1) (by omega)
        have c0 := hr.c0
        have hlt' : (k : Int) < m.length := by omega
        have hput := fun (y : Int) => (by
          have hr' := hr
          rw [← chg_length (delAt from_ to) m k] at hr'
          have := hr'.put hBg (y := (id, (y, adv))) (j := 1) (u := .int .i64 y) hx' (by omega) rfl
          rw [chg_length] at this
          exact this : RefAt B (wr.setCell ⟨g, k * 3 + 1, none⟩ (.int .i64 y)) bo (.slice (some ⟨g, 0, none⟩) m.length cp) ((chg (delAt from_ to) m k).set k (id, (y, adv))) n)
        have hsc : chg (delAt from_ to) m (k + 1) = (chg (delAt from_ to) m k).set k (id, (delAt from_ to (at_, adv), adv)) := chg_succ hx
        have HS := Lib.hid hsc
        have HX := Lib.hid hx
        have HU := Lib.hid hput
        have HR := Lib.hid hr
        clear hfz hcs hx hx' hsc hput
        by_cases t1 : to ≤ at_
        · have hd : delAt from_ to (at_, adv) = at_ - (to - from_) := by unfold delAt; rw [if_pos t1]
          have HD := Lib.hid hd
          have C0 : ∀ x : UpW wr.heap.size wr, x.w.cell? ⟨bo, 0, none⟩ = some (.slice (some ⟨g, 0, none⟩) m.length cp) := fun x => (x.up.cell (p := ⟨bo, 0, none⟩) hr.lt).trans c0
          have C1 : ∀ x : UpW wr.heap.size wr, x.w.cell? ⟨g, k * 3 + 1, none⟩ = some (.int .i64 at_) := fun x => (x.up.cell (p := ⟨g, k * 3 + 1, none⟩) hgl).trans e0
          have w1 : IntKind.i64.wrap (to - from_) = to - from_ := IntWalk.i64_in _ (by omega)
          have w2 : IntKind.i64.wrap (at_ - (to - from_)) = at_ - (to - from_) := IntWalk.i64_in _ (by omega)
          have hk0 : (0 : Int) ≤ k := by omega
          clear hr hd
          go_wp2_with fail
          refine wp_region_mix wr.heap.size 19 [] [0, 1, 2, 3, 4, 5, 6, 7, 8, 9, 10, 11, 12, 13, 14, 15, 16, 17, 18] (by kernel_rfl) (fun c d v a w h => by cases d <;> exact h) (by kernel_rfl) ?_
          simp only [wpMix, pk_nil, pk_cons, pushAt_zero, pushAt_succ, List.drop_succ_cons, List.drop_zero]
          repeat (go_big_quiet_step (fail))
          refine wpQuiet_nil ?_
          clear C0 C1 w1 w2
          go_wp2_with fail
          go_roundw
          case rel => exact ⟨k + 1, by omega, by go_num, by rw [HS.out, HD.out]; exact (HU.out _).drew, (ho.setCell (p := ⟨g, k * 3 + 1, none⟩) (.inr hBg) _).drew⟩
          case measure => simp [intOf]; omega
        · by_cases t2 : from_ < at_
          · have hd : delAt from_ to (at_, adv) = from_ := by unfold delAt; rw [if_neg t1, if_pos t2]
            have HD := Lib.hid hd
            have t1' : at_ < to := by omega
            clear hr hd t1
            go_wp2_with fail
            go_roundw
            case rel => exact ⟨k + 1, by omega, by go_num, by rw [HS.out, HD.out]; exact HU.out _, ho.setCell (p := ⟨g, k * 3 + 1, none⟩) (.inr hBg) _⟩
            case measure => simp [intOf]; omega
          · have hd : chg (delAt from_ to) m (k + 1) = chg (delAt from_ to) m k := chg_same HX.out (by unfold delAt; rw [if_neg t1, if_neg t2])
            have HD := Lib.hid hd
            have t1' : at_ < to := by omega
            have t2' : at_ ≤ from_ := by omega
            clear hr hd t1 t2
            go_wp2_with fail
            go_roundw
            case rel => exact ⟨k + 1, by omega, by go_num, by rw [HD.out]; exact HR.out, ho⟩
            case measure => simp [intOf]; omega
      · have hkl : k = m.length := by omega
        subst hkl
        have c0 := hr.c0
        have HR := Lib.hid hr
        clear hr hlt
        go_wp2_with fail
        go_ret
        exact ⟨rfl, _, by have := HR.out; rw [chg_all] at this; exact this, ho⟩
  · rw [if_neg hp]
    exact (rdel_bad h from_ to (by simpa using hp)).mono fun e w' ⟨he, hw⟩ => by subst hw; exact ⟨he, _, h, Only.refl _ _⟩
end Go.Proofs.Ytlnpjdihdemgmaa
