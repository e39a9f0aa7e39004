/- copyistlaw24: plain, blanks, one: what they make of bytes. -/
import Derived.Test.YtphdkcdkhklicaaGreatDoorCfM
import Derived.Test.YtphdkcdkhklicaaGreatDoorCfK
namespace Go.Proofs.YtphdkcdkhklicaaGreatDoor
open Go.RowKit Go.Lib
set_option linter.unusedVariables false
set_option linter.unusedSimpArgs false
theorem drop_byte (s : ByteArray) (i : Nat) (h : i < s.size) : s.data.toList.drop i = s[i] :: s.data.toList.drop (i + 1) := by
  rw [List.drop_eq_getElem_cons (by rw [size_len]; exact h)]
  rfl
theorem one_byte (s : ByteArray) (i : Nat) (h : i < s.size) : (s.extract i (i + 1)).data.toList = [s[i]] := by
  rw [extract_list, drop_byte s i h]
  have : i + 1 - i = 1 := by omega
  rw [this]; rfl
/-- Which blank a byte is, as the walk's tests say it. -/
theorem byte_way (u : UInt8) : (u = 32 ∧ ((u.toNat : Int) == 32) = true ∧ ((u.toNat : Int) != 32) = false ∧ ((u.toNat : Int) == 10) = false) ∨
    (u = 9 ∧ ((u.toNat : Int) == 32) = false ∧ ((u.toNat : Int) != 32) = true ∧ ((u.toNat : Int) == 9) = true ∧ ((u.toNat : Int) != 9) = false ∧ ((u.toNat : Int) == 10) = false) ∨
    (u = 10 ∧ ((u.toNat : Int) == 32) = false ∧ ((u.toNat : Int) != 32) = true ∧ ((u.toNat : Int) == 9) = false ∧ ((u.toNat : Int) != 9) = true ∧ ((u.toNat : Int) == 10) = true) ∨
    ((u ≠ 32 ∧ u ≠ 9 ∧ u ≠ 10) ∧ ((u.toNat : Int) == 32) = false ∧ ((u.toNat : Int) != 32) = true ∧ ((u.toNat : Int) == 9) = false ∧ ((u.toNat : Int) != 9) = true ∧ ((u.toNat : Int) == 10) = false) := by
  have key : ∀ m : Nat, m < 256 → u ≠ UInt8.ofNat m → ((u.toNat : Int) == (m : Int)) = false := fun m hm hne => by
    rw [beq_eq_false_iff_ne]
    intro e
    exact hne (by rw [show m = u.toNat by omega]; simp)
  by_cases h1 : u = 32
  · subst h1; exact .inl ⟨rfl, rfl, rfl, rfl⟩
  · by_cases h2 : u = 9
    · subst h2; exact .inr (.inl ⟨rfl, rfl, rfl, rfl, rfl, rfl⟩)
    · by_cases h3 : u = 10
      · subst h3; exact .inr (.inr (.inl ⟨rfl, rfl, rfl, rfl, rfl, rfl⟩))
      · have k1 := key 32 (by omega) h1
        have k2 := key 9 (by omega) h2
        have k3 := key 10 (by omega) h3
        refine .inr (.inr (.inr ⟨⟨h1, h2, h3⟩, k1, ?_, k2, ?_, k3⟩))
        · show (!((u.toNat : Int) == 32)) = true
          rw [show ((u.toNat : Int) == 32) = false from k1]; rfl
        · show (!((u.toNat : Int) == 9)) = true
          rw [show ((u.toNat : Int) == 9) = false from k2]; rfl
theorem pl_bl {u : UInt8} (h : u = 32 ∨ u = 9 ∨ u = 10) (inn : Bool) (l : List UInt8) : plB inn (u :: l) = if inn then 32 :: plB false l else plB false l := by rw [plB, if_pos h]
theorem pl_nb {u : UInt8} (h : u ≠ 32 ∧ u ≠ 9 ∧ u ≠ 10) (inn : Bool) (l : List UInt8) : plB inn (u :: l) = u :: plB true l := by rw [plB, if_neg (by rintro (e | e | e); exact h.1 e; exact h.2.1 e; exact h.2.2 e)]
theorem size_app1 (s : ByteArray) (x : List UInt8) (r : List UInt8) (n : Nat) (h : s.data.toList ++ x = r) (hr : r.length ≤ n) : s.size ≤ n := by
  have := congrArg List.length h
  rw [List.length_append, size_len] at this; omega
section
variable {w w' : World}
set_option maxRecDepth 100000 in
set_option maxHeartbeats 8000000 in
theorem cfplain_ok (s : ByteArray) (hs : s.size ≤ 100000) (w : World) :
    Calls Tryz.prog 19 #[.string s] w fun e w' => e = .returned (.string ⟨(plB false s.data.toList).toArray⟩) ∧ w = w' := by
  have hpl := plB_len s.data.toList false
  rw [size_len] at hpl
  have HPL := Lib.hid hpl
  clear hpl
  obtain ⟨R, hR⟩ : ∃ R, R = plB false s.data.toList := ⟨_, rfl⟩
  rw [← hR]
  have HR := Lib.hid hR
  rw [← hR] at HPL
  clear hR
  go_enter Tryz.func19, Tryz.ntmps19
  go_wp2_with fail
  go_loopw [3, 4, 5] (fun va vb vc wr => ∃ (i : Nat) (out : ByteArray) (inn : Bool), i ≤ s.size ∧ va = .string out ∧ vb = .bool inn ∧ vc = .int .i64 i ∧ out.data.toList ++ plB inn (s.data.toList.drop i) = R ∧ w = wr) (fun _ _ vc _ => s.size + 1 - (intOf vc).toNat)
  case atStart => exact ⟨0, ⟨#[]⟩, false, Nat.zero_le _, rfl, rfl, rfl, by rw [HR.out]; rfl, rfl⟩
  case round =>
    obtain ⟨i, out, inn, hi, rfl, rfl, rfl, hrel, hww⟩ := hrel
    subst hww
    have hos := size_app1 _ _ _ _ hrel HPL.out
    by_cases hlt : i < s.size
    · have d1 : decide ((i : Int) < (s.size : Int)) = true := decide_eq_true (by omega)
      have d2 : (i < s.size) = True := eq_true hlt
      have hadd := app_string out ⟨#[32]⟩ (by omega) (by show 1 ≤ _; omega)
      have hone := one_byte s i hlt
      have hdrop := drop_byte s i hlt
      obtain ⟨j, hj⟩ : ∃ j, j = i + 1 := ⟨_, rfl⟩
      rw [← hj] at hone hdrop
      have hsz1 : (s.extract i j).size = 1 := by rw [← size_len, hone]; rfl
      have hadd2 := app_string out (s.extract i j) (by omega) (by omega)
      have s1 : IntKind.i64.wrap ((i : Int) + 1) = (j : Int) := by rw [IntWalk.i64_in _ (by omega)]; omega
      have j0 : (0 : Int) ≤ i := by omega
      have j1 : (i : Int) ≤ j := by omega
      have j2 : (j : Int) ≤ s.size := by omega
      have HREL := Lib.hid hrel
      have HD := Lib.hid hdrop
      have HO := Lib.hid hone
      have HJ := Lib.hid hj
      have hl32 : (⟨#[32]⟩ : ByteArray).size ≤ 1 := Nat.le_refl _
      have hsz2 : (s.extract i j).size ≤ 1 := by omega
      clear hrel hdrop hone hj hi hsz1 hadd hadd2
      rcases byte_way s[i] with ⟨hu, e1, e2, e3⟩ | ⟨hu, e1, e2, e3, e4, e5⟩ | ⟨hu, e1, e2, e3, e4, e5⟩ | ⟨hu, e1, e2, e3, e4, e5⟩
      · have HP := Lib.hid (pl_bl (.inl hu))
        clear hu
        cases inn
        all_goals
          go_wp2_with fail
          all_goals (try (exfalso; omega))
          go_roundw
          case rel =>
            refine ⟨j, _, _, by have := HJ.out; omega, rfl, rfl, rfl, ?_, trivial⟩
            rw [← HREL.out, HD.out, HP.out]
            first | (rw [str_app, HO.out]; simp; done) | simp [str_app]
          case measure => have := HJ.out; simp [intOf]; omega
      · have HP := Lib.hid (pl_bl (.inr (.inl hu)))
        clear hu
        cases inn
        all_goals
          go_wp2_with fail
          all_goals (try (exfalso; omega))
          go_roundw
          case rel =>
            refine ⟨j, _, _, by have := HJ.out; omega, rfl, rfl, rfl, ?_, trivial⟩
            rw [← HREL.out, HD.out, HP.out]
            first | (rw [str_app, HO.out]; simp; done) | simp [str_app]
          case measure => have := HJ.out; simp [intOf]; omega
      · have HP := Lib.hid (pl_bl (.inr (.inr hu)))
        clear hu
        cases inn
        all_goals
          go_wp2_with fail
          all_goals (try (exfalso; omega))
          go_roundw
          case rel =>
            refine ⟨j, _, _, by have := HJ.out; omega, rfl, rfl, rfl, ?_, trivial⟩
            rw [← HREL.out, HD.out, HP.out]
            first | (rw [str_app, HO.out]; simp; done) | simp [str_app]
          case measure => have := HJ.out; simp [intOf]; omega
      · have HP := Lib.hid (pl_nb hu)
        clear hu
        cases inn
        all_goals
          go_wp2_with fail
          all_goals (try (exfalso; omega))
          go_roundw
          case rel =>
            refine ⟨j, _, _, by have := HJ.out; omega, rfl, rfl, rfl, ?_, trivial⟩
            rw [← HREL.out, HD.out, HP.out]
            first | (rw [str_app, HO.out]; simp; done) | simp [str_app]
          case measure => have := HJ.out; simp [intOf]; omega
    · have d1 : decide ((i : Int) < (s.size : Int)) = false := decide_eq_false (by omega)
      have d2 : (i < s.size) = False := eq_false hlt
      have hadd := app_string out ⟨#[32]⟩ (by omega) (by show 1 ≤ _; omega)
      have hdn : s.data.toList.drop i = [] := List.drop_eq_nil_of_le (by rw [size_len]; omega)
      rw [hdn] at hrel
      have HREL := Lib.hid hrel
      have hl32 : (⟨#[32]⟩ : ByteArray).size ≤ 1 := Nat.le_refl _
      clear hrel hdn hadd
      cases inn
      all_goals
        go_wp2_with fail
        all_goals (try (exfalso; omega))
        go_ret
        refine ⟨?_, rfl⟩
        rw [← HREL.out]
        refine congrArg (fun b => Ending.returned (.string b)) (bytes_ext ?_)
        simp [plB, str_app]
theorem bk_32 {u : UInt8} (h : u = 32 ∨ u = 9) (inn : Bool) (l : List UInt8) : bkB inn (u :: l) = bkB inn l := by rw [bkB, if_neg (by rcases h with rfl | rfl <;> decide), if_pos h]
theorem bk_10 {u : UInt8} (h : u = 10) (inn : Bool) (l : List UInt8) : bkB inn (u :: l) = if inn then bkB false l else 1 + bkB false l := by rw [bkB, if_pos h]
theorem bk_nb {u : UInt8} (h : u ≠ 32 ∧ u ≠ 9 ∧ u ≠ 10) (inn : Bool) (l : List UInt8) : bkB inn (u :: l) = bkB true l := by rw [bkB, if_neg h.2.2, if_neg (by rintro (e | e); exact h.1 e; exact h.2.1 e)]
theorem on_bl {u : UInt8} (h : u = 32 ∨ u = 9) (inn : Bool) (l : List UInt8) : onB inn (u :: l) = onB false l := by rw [onB, if_pos h]
theorem on_nb {u : UInt8} (h : u ≠ 32 ∧ u ≠ 9) (inn : Bool) (l : List UInt8) : onB inn (u :: l) = if inn then onB true l else 1 + onB true l := by rw [onB, if_neg (by rintro (e | e); exact h.1 e; exact h.2 e)]
set_option maxRecDepth 100000 in
set_option maxHeartbeats 8000000 in
theorem blanks_ok (s : ByteArray) (hs : s.size ≤ 100000) (w : World) :
    Calls Tryz.prog 20 #[.string s] w fun e w' => e = .returned (.int .i64 (bkB false s.data.toList : Nat)) ∧ w = w' := by
  have hpl := bkB_le s.data.toList false
  rw [size_len] at hpl
  have HPL := Lib.hid hpl
  clear hpl
  obtain ⟨R, hR⟩ : ∃ R, R = bkB false s.data.toList := ⟨_, rfl⟩
  rw [← hR]
  have HR := Lib.hid hR
  rw [← hR] at HPL
  clear hR
  go_enter Tryz.func20, Tryz.ntmps20
  go_wp2_with fail
  go_loopw [3, 4, 5] (fun va vb vc wr => ∃ (i n : Nat) (inn : Bool), i ≤ s.size ∧ va = .int .i64 n ∧ vb = .bool inn ∧ vc = .int .i64 i ∧ n + bkB inn (s.data.toList.drop i) = R ∧ w = wr) (fun _ _ vc _ => s.size + 1 - (intOf vc).toNat)
  case atStart => exact ⟨0, 0, false, Nat.zero_le _, rfl, rfl, rfl, by rw [HR.out]; simp, rfl⟩
  case round =>
    obtain ⟨i, n, inn, hi, rfl, rfl, rfl, hrel, hww⟩ := hrel
    subst hww
    by_cases hlt : i < s.size
    · have d1 : decide ((i : Int) < (s.size : Int)) = true := decide_eq_true (by omega)
      have d2 : (i < s.size) = True := eq_true hlt
      have hos : n ≤ s.size := by have := HPL.out; omega
      have hdrop := drop_byte s i hlt
      obtain ⟨j, hj⟩ : ∃ j, j = i + 1 := ⟨_, rfl⟩
      rw [← hj] at hdrop
      have s1 : IntKind.i64.wrap ((i : Int) + 1) = (j : Int) := by rw [IntWalk.i64_in _ (by omega)]; omega
      obtain ⟨m, hm⟩ : ∃ m, m = n + 1 := ⟨_, rfl⟩
      have s2 : IntKind.i64.wrap ((n : Int) + 1) = (m : Int) := by rw [IntWalk.i64_in _ (by omega)]; omega
      have j0 : (0 : Int) ≤ i := by omega
      have HREL := Lib.hid hrel
      have HD := Lib.hid hdrop
      have HJ := Lib.hid hj
      have HM := Lib.hid hm
      clear hrel hdrop hj hi hm hos
      rcases byte_way s[i] with ⟨hu, e1, e2, e3⟩ | ⟨hu, e1, e2, e3, e4, e5⟩ | ⟨hu, e1, e2, e3, e4, e5⟩ | ⟨hu, e1, e2, e3, e4, e5⟩
      · have HP := Lib.hid (bk_32 (.inl hu))
        clear hu
        cases inn
        all_goals
          go_wp2_with fail
          go_roundw
          case rel =>
            refine ⟨j, _, _, by have := HJ.out; omega, rfl, rfl, rfl, ?_, trivial⟩
            rw [← HREL.out, HD.out, HP.out]
            try (first | rfl | (have := HM.out; simp; omega))
          case measure => have := HJ.out; simp [intOf]; omega
      · have HP := Lib.hid (bk_32 (.inr hu))
        clear hu
        cases inn
        all_goals
          go_wp2_with fail
          go_roundw
          case rel =>
            refine ⟨j, _, _, by have := HJ.out; omega, rfl, rfl, rfl, ?_, trivial⟩
            rw [← HREL.out, HD.out, HP.out]
            try (first | rfl | (have := HM.out; simp; omega))
          case measure => have := HJ.out; simp [intOf]; omega
      · have HP := Lib.hid (bk_10 hu)
        clear hu
        cases inn
        all_goals
          go_wp2_with fail
          go_roundw
          case rel =>
            refine ⟨j, _, _, by have := HJ.out; omega, rfl, rfl, rfl, ?_, trivial⟩
            rw [← HREL.out, HD.out, HP.out]
            try (first | rfl | (have := HM.out; simp; omega))
          case measure => have := HJ.out; simp [intOf]; omega
      · have HP := Lib.hid (bk_nb hu)
        clear hu
        cases inn
        all_goals
          go_wp2_with fail
          go_roundw
          case rel =>
            refine ⟨j, _, _, by have := HJ.out; omega, rfl, rfl, rfl, ?_, trivial⟩
            rw [← HREL.out, HD.out, HP.out]
            try (first | rfl | (have := HM.out; simp; omega))
          case measure => have := HJ.out; simp [intOf]; omega
    · have d1 : decide ((i : Int) < (s.size : Int)) = false := decide_eq_false (by omega)
      have d2 : (i < s.size) = False := eq_false hlt
      have hdn : s.data.toList.drop i = [] := List.drop_eq_nil_of_le (by rw [size_len]; omega)
      rw [hdn] at hrel
      have HREL := Lib.hid hrel
      clear hrel hdn
      go_wp2_with fail
      go_ret
      refine ⟨?_, rfl⟩
      rw [← HREL.out]
      rfl
set_option maxRecDepth 100000 in
set_option maxHeartbeats 8000000 in
theorem one_ok (s : ByteArray) (hs : s.size ≤ 100000) (w : World) :
    Calls Tryz.prog 23 #[.string s] w fun e w' => e = .returned (.int .i64 (onB false s.data.toList : Nat)) ∧ w = w' := by
  have hpl := onB_le s.data.toList false
  rw [size_len] at hpl
  have HPL := Lib.hid hpl
  clear hpl
  obtain ⟨R, hR⟩ : ∃ R, R = onB false s.data.toList := ⟨_, rfl⟩
  rw [← hR]
  have HR := Lib.hid hR
  rw [← hR] at HPL
  clear hR
  go_enter Tryz.func23, Tryz.ntmps23
  go_wp2_with fail
  go_loopw [3, 4, 5] (fun va vb vc wr => ∃ (i n : Nat) (inn : Bool), i ≤ s.size ∧ va = .int .i64 n ∧ vb = .bool inn ∧ vc = .int .i64 i ∧ n + onB inn (s.data.toList.drop i) = R ∧ w = wr) (fun _ _ vc _ => s.size + 1 - (intOf vc).toNat)
  case atStart => exact ⟨0, 0, false, Nat.zero_le _, rfl, rfl, rfl, by rw [HR.out]; simp, rfl⟩
  case round =>
    obtain ⟨i, n, inn, hi, rfl, rfl, rfl, hrel, hww⟩ := hrel
    subst hww
    by_cases hlt : i < s.size
    · have d1 : decide ((i : Int) < (s.size : Int)) = true := decide_eq_true (by omega)
      have d2 : (i < s.size) = True := eq_true hlt
      have hos : n ≤ s.size := by have := HPL.out; omega
      have hdrop := drop_byte s i hlt
      obtain ⟨j, hj⟩ : ∃ j, j = i + 1 := ⟨_, rfl⟩
      rw [← hj] at hdrop
      have s1 : IntKind.i64.wrap ((i : Int) + 1) = (j : Int) := by rw [IntWalk.i64_in _ (by omega)]; omega
      obtain ⟨m, hm⟩ : ∃ m, m = n + 1 := ⟨_, rfl⟩
      have s2 : IntKind.i64.wrap ((n : Int) + 1) = (m : Int) := by rw [IntWalk.i64_in _ (by omega)]; omega
      have j0 : (0 : Int) ≤ i := by omega
      have HREL := Lib.hid hrel
      have HD := Lib.hid hdrop
      have HJ := Lib.hid hj
      have HM := Lib.hid hm
      clear hrel hdrop hj hi hm hos
      rcases byte_way s[i] with ⟨hu, e1, e2, e3⟩ | ⟨hu, e1, e2, e3, e4, e5⟩ | ⟨hu, e1, e2, e3, e4, e5⟩ | ⟨hu, e1, e2, e3, e4, e5⟩
      · have HP := Lib.hid (on_bl (.inl hu))
        clear hu
        cases inn
        all_goals
          go_wp2_with fail
          go_roundw
          case rel =>
            refine ⟨j, _, _, by have := HJ.out; omega, rfl, rfl, rfl, ?_, trivial⟩
            rw [← HREL.out, HD.out, HP.out]
            try (first | rfl | (have := HM.out; simp; omega))
          case measure => have := HJ.out; simp [intOf]; omega
      · have HP := Lib.hid (on_bl (.inr hu))
        clear hu
        cases inn
        all_goals
          go_wp2_with fail
          go_roundw
          case rel =>
            refine ⟨j, _, _, by have := HJ.out; omega, rfl, rfl, rfl, ?_, trivial⟩
            rw [← HREL.out, HD.out, HP.out]
            try (first | rfl | (have := HM.out; simp; omega))
          case measure => have := HJ.out; simp [intOf]; omega
      · have HP := Lib.hid (on_nb (u := s[i]) ⟨by rw [hu]; decide, by rw [hu]; decide⟩)
        clear hu
        cases inn
        all_goals
          go_wp2_with fail
          go_roundw
          case rel =>
            refine ⟨j, _, _, by have := HJ.out; omega, rfl, rfl, rfl, ?_, trivial⟩
            rw [← HREL.out, HD.out, HP.out]
            try (first | rfl | (have := HM.out; simp; omega))
          case measure => have := HJ.out; simp [intOf]; omega
      · have HP := Lib.hid (on_nb ⟨hu.1, hu.2.1⟩)
        clear hu
        cases inn
        all_goals
          go_wp2_with fail
          go_roundw
          case rel =>
            refine ⟨j, _, _, by have := HJ.out; omega, rfl, rfl, rfl, ?_, trivial⟩
            rw [← HREL.out, HD.out, HP.out]
            try (first | rfl | (have := HM.out; simp; omega))
          case measure => have := HJ.out; simp [intOf]; omega
    · have d1 : decide ((i : Int) < (s.size : Int)) = false := decide_eq_false (by omega)
      have d2 : (i < s.size) = False := eq_false hlt
      have hdn : s.data.toList.drop i = [] := List.drop_eq_nil_of_le (by rw [size_len]; omega)
      rw [hdn] at hrel
      have HREL := Lib.hid hrel
      clear hrel hdn
      go_wp2_with fail
      go_ret
      refine ⟨?_, rfl⟩
      rw [← HREL.out]
      rfl
end
end Go.Proofs.YtphdkcdkhklicaaGreatDoor
