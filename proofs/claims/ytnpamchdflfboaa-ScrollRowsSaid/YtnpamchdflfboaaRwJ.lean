/- layout.At and the reference's: a cell of a row. -/
import Derived.Test.YtnpamchdflfboaaRwI
namespace Go.Proofs.Ytnpamchdflfboaa
open Go.RowKit Go.Shelf
set_option linter.unusedVariables false
set_option linter.unusedSimpArgs false
section
variable {w w' : World} {A A' : Option Addr} {l l' : List RowE}
set_option maxRecDepth 100000 in
set_option maxHeartbeats 1000000 in
theorem at_hit (c : Nat) (row m : Nat) (e : RowE) (h : RowsAt w A l) (hl : l.length ≤ 1000000) (hx : l[row]? = some e) (hb : e.ps.length ≤ 1000000) (z : Int) (hz : e.ps[m]? = some z) (hz1 : ¬ z = -1) :
    Calls Try.prog 40 #[.slice A l.length c, .int .i64 row, .int .i64 m] w fun e' w' => e' = .returned (.tuple #[.int .i64 z, .bool true]) ∧ Below w.heap.size w w' := by
  have hrow := (List.getElem?_eq_some_iff.1 hx).1
  have hm := (List.getElem?_eq_some_iff.1 hz).1
  have hI := (h.2 e (List.mem_of_getElem? hx)).i2
  obtain ⟨g, o, rfl, hg, hcg⟩ := h.1.at_ eltR hx
  obtain ⟨A1, c1, cs, A2, c2, ps, fr, to, co⟩ := e
  dsimp only at hb hI hm hz ⊢
  obtain ⟨g2, o2, rfl, hg2, hc2⟩ := hI.at_ eltI hz
  have k1 : w.cell? ⟨g, o + row * 5 + 1, none⟩ = some (.slice (some ⟨g2, o2, none⟩) ps.length c2) := hcg 1 _ rfl
  have kz := hc2 0 _ rfl
  simp only [Nat.mul_one, Nat.add_zero] at kz
  have r0 : (0 : Int) ≤ row := by omega
  have r1 : (row : Int) < l.length := by omega
  have m0 : (0 : Int) ≤ m := by omega
  have m1 : (m : Int) < ps.length := by omega
  have e1 : decide ((row : Int) < 0) = false := decide_eq_false (by omega)
  have e2 : decide ((l.length : Int) ≤ (row : Int)) = false := decide_eq_false (by omega)
  have d1 : decide ((0 : Int) ≤ (m : Int)) = true := decide_eq_true m0
  have d2 : decide ((m : Int) < (ps.length : Int)) = true := decide_eq_true m1
  have hne : (z != -1) = true := by simpa using hz1
  clear hx hcg hI h hz hc2 hz1
  go_enter Try.func40, Try.ntmps40
  go_wp2
  refine bodyPost_ret (v := .tuple #[.int .i64 z, .bool true]) (by simp [results, Try.f40, go_sem]) rfl ⟨rfl, ?_⟩
  exact up2 (below1 _ _) (below1 _ _)
theorem at_any (c : Nat) (row : Nat) (col : Int) (e : RowE) (h : RowsAt w A l) (hl : l.length ≤ 1000000) (hx : l[row]? = some e) (hb : e.ps.length ≤ 1000000) :
    Calls Try.prog 40 #[.slice A l.length c, .int .i64 row, .int .i64 col] w fun e' w' => e' = .returned (atV e.ps col) ∧ Below w.heap.size w w' := by
  unfold atV
  by_cases hh : 0 ≤ col ∧ col < e.ps.length ∧ ¬ e.ps.getD col.toNat 0 = -1
  · rw [if_pos hh]
    obtain ⟨h1, h2, h3⟩ := hh
    obtain ⟨m, rfl⟩ : ∃ m : Nat, col = m := ⟨col.toNat, by omega⟩
    have hm : m < e.ps.length := by omega
    have hz : e.ps[m]? = some e.ps[m] := List.getElem?_eq_getElem hm
    have hg : e.ps.getD (m : Int).toNat 0 = e.ps[m] := by rw [Int.toNat_natCast, List.getD_eq_getElem?_getD, hz]; rfl
    rw [hg] at h3 ⊢
    exact at_hit c row m e h hl hx hb _ hz h3
  · rw [if_neg hh]
    apply callsIn_wide.1
    by_cases h1 : col < 0
    · exact at_neg c row col e h hl hx hb h1
    · by_cases h2 : (e.ps.length : Int) ≤ col
      · exact at_far c row col e h hl hx hb ⟨by omega, h2⟩
      · refine at_gap c row col e h hl hx hb col.toNat (by omega) ⟨by omega, ?_⟩
        rcases Classical.em (e.ps.getD col.toNat 0 = -1) with h3 | h3
        · exact h3
        · exact absurd ⟨by omega, by omega, h3⟩ hh
theorem mem_back {ps : List Int} {k : Nat} {y : Nat × Int} (h : y ∈ backTo ps k) : ∃ j, j < k ∧ y = (ps.length - 1 - j, ps.getD (ps.length - 1 - j) 0) := by
  unfold backTo at h
  obtain ⟨j, hj, rfl⟩ := List.mem_map.1 h
  exact ⟨j, List.mem_range.1 hj, rfl⟩
set_option maxRecDepth 100000 in
set_option maxHeartbeats 4000000 in
/-- The reference's, from the test on. -/
theorem atR_any (c : Nat) (row : Nat) (col : Int) (e : RowE) (h : RowsAt w A l) (hl : l.length ≤ 1000000) (hx : l[row]? = some e) (hb : e.ps.length ≤ 1000000) :
    Calls Try.prog 41 #[.slice A l.length c, .int .i64 row, .int .i64 col] w fun e' w' => e' = .returned (atV e.ps col) ∧ Below w.heap.size w w' := by
  have hrow := (List.getElem?_eq_some_iff.1 hx).1
  have hI := (h.2 e (List.mem_of_getElem? hx)).i2
  obtain ⟨g, o, rfl, hg, hcg⟩ := h.1.at_ eltR hx
  obtain ⟨A1, c1, cs, A2, c2, ps, fr, to, co⟩ := e
  dsimp only at hb hI ⊢
  have k1 : w.cell? ⟨g, o + row * 5 + 1, none⟩ = some (.slice A2 ps.length c2) := hcg 1 _ rfl
  have r0 : (0 : Int) ≤ row := by omega
  have r1 : (row : Int) < l.length := by omega
  have e1 : decide ((row : Int) < 0) = false := decide_eq_false (by omega)
  have e2 : decide ((l.length : Int) ≤ (row : Int)) = false := decide_eq_false (by omega)
  have HI := Lib.hid hI
  clear hx hcg hI h
  unfold atV
  by_cases hh : 0 ≤ col ∧ col < ps.length ∧ ¬ ps.getD col.toNat 0 = -1
  · rw [if_pos hh]
    obtain ⟨h1, h2, h3⟩ := hh
    obtain ⟨m, rfl⟩ : ∃ m : Nat, col = m := ⟨col.toNat, by omega⟩
    rw [Int.toNat_natCast] at h3 ⊢
    obtain ⟨z, hz⟩ : ∃ z, ps[m]? = some z := ⟨_, List.getElem?_eq_getElem (by omega)⟩
    have hg : ps.getD m 0 = z := by rw [List.getD_eq_getElem?_getD, hz]; rfl
    rw [hg] at h3 ⊢
    obtain ⟨g2, o2, hA2, hg2, hc2⟩ := HI.out.at_ eltI hz
    have kz := hc2 0 _ rfl
    simp only [Nat.mul_one, Nat.add_zero] at kz
    subst hA2
    have d0 : decide ((m : Int) < 0) = false := decide_eq_false (by omega)
    have d1 : decide ((0 : Int) ≤ (m : Int)) = true := decide_eq_true h1
    have d2 : decide ((ps.length : Int) ≤ (m : Int)) = false := decide_eq_false (by omega)
    have hne : (z != -1) = true := by simpa using h3
    clear hz hg h3 hc2
    go_enter Try.func41, Try.ntmps41
    go_wp2_with fail
    go_ret2
    exact ⟨rfl, Below.refl _ _⟩
  · rw [if_neg hh]
    by_cases hin : 0 ≤ col ∧ col < ps.length
    · obtain ⟨m, rfl⟩ : ∃ m : Nat, col = m := ⟨col.toNat, by omega⟩
      obtain ⟨z, hz⟩ : ∃ z, ps[m]? = some z := ⟨_, List.getElem?_eq_getElem (by omega)⟩
      have hz1 : z = -1 := by
        rcases Classical.em (z = -1) with h3 | h3
        · exact h3
        · exact absurd ⟨hin.1, hin.2, by rw [Int.toNat_natCast, List.getD_eq_getElem?_getD, hz]; exact h3⟩ hh
      subst hz1
      obtain ⟨g2, o2, hA2, hg2, hc2⟩ := HI.out.at_ eltI hz
      have kz := hc2 0 _ rfl
      simp only [Nat.mul_one, Nat.add_zero] at kz
      have h1 := hin.1
      have h2 := hin.2
      have d0 : decide ((m : Int) < 0) = false := decide_eq_false (by omega)
      have d1 : decide ((0 : Int) ≤ (m : Int)) = true := decide_eq_true h1
      have d2 : decide ((ps.length : Int) ≤ (m : Int)) = false := decide_eq_false (by omega)
      subst hA2
      clear hz hc2 hh hin
      go_enter Try.func41, Try.ntmps41
      go_wp2_with fail
      go_loop [9] (fun vk => ∃ k : Nat, k ≤ ps.length ∧ vk = .int .i64 ((ps.length : Int) - 1 - k) ∧ ∀ y ∈ backTo ps k, y.2 = -1) (fun vk => ((intOf vk) + 1).toNat)
      case atStart => exact ⟨0, by omega, by simp, by simp [backTo]⟩
      case round =>
        obtain ⟨k, hk, rfl, hall⟩ := hrel
        have HALL := Lib.hid hall
        clear hall
        by_cases hlt : k < ps.length
        · obtain ⟨m, hm⟩ : ∃ m : Nat, ps.length - 1 - k = m := ⟨_, rfl⟩
          have hmi : (ps.length : Int) - 1 - k = (m : Int) := by omega
          rw [hmi]
          obtain ⟨z, hz⟩ : ∃ z, ps[m]? = some z := ⟨_, List.getElem?_eq_getElem (by omega)⟩
          obtain ⟨g3, o3, hA3, hg3, hc3⟩ := HI.out.at_ eltI hz
          have kz3 := hc3 0 _ rfl
          simp only [Nat.mul_one, Nat.add_zero] at kz3
          cases hA3
          have hsuc : backTo ps (k + 1) = backTo ps k ++ [(m, z)] := by
            rw [backTo_succ, hm, List.getD_eq_getElem?_getD, hz]; rfl
          have HPX := Lib.hid (backTo_prefix ps (k + 1) ps.length hlt)
          have HSU := Lib.hid hsuc
          have hmlt : (m : Int) < ps.length := by omega
          have hm0 : (0 : Int) ≤ m := by omega
          have HM := Lib.hid hmi
          have dd : decide ((0 : Int) ≤ (m : Int)) = true := decide_eq_true hm0
          clear hsuc hm hmi hz hc3
          by_cases hz1 : z = -1
          · subst hz1
            have hrel : ∀ y ∈ backTo ps (k + 1), y.2 = -1 := fun y hy => by
              rw [HSU.out] at hy
              rcases List.mem_append.1 hy with hy | hy
              · exact HALL.out y hy
              · rw [List.mem_singleton.1 hy]
            have HREL := Lib.hid hrel
            clear hrel
            go_wp2_with fail
            go_round
            case rel => first | exact ⟨k + 1, by omega, by have := HM.out; go_num, HREL.out⟩ | ((repeat apply Exists.intro); exact ⟨⟨k + 1, by omega, by have := HM.out; go_num, HREL.out⟩, rfl⟩)
            case measure => simp [intOf]
          · have hne : (z != -1) = true := by simpa using hz1
            have HZ := Lib.hid hz1
            clear hz1
            go_wp2_with fail
            go_ret2
            exact ⟨by rw [last_some HALL.out (x := (m, z)) HZ.out (by rw [← HSU.out]; exact HPX.out)]; rfl, Below.refl _ _⟩
        · obtain rfl : k = ps.length := by omega
          have hneg : (ps.length : Int) - 1 - ps.length = -1 := by omega
          rw [hneg]
          go_wp2_with fail
          go_ret2
          exact ⟨by rw [last_none HALL.out]; rfl, Below.refl _ _⟩
    · have hout : decide (col < 0) = true ∨ (decide (col < 0) = false ∧ decide ((ps.length : Int) ≤ col) = true) := by
        by_cases h0 : col < 0
        · exact .inl (decide_eq_true h0)
        · exact .inr ⟨decide_eq_false h0, decide_eq_true (by omega)⟩
      clear hh hin
      by_cases hp0 : ps.length = 0
      · have hp0' := Lib.hid hp0
        have hnil : ps = [] := List.eq_nil_of_length_eq_zero hp0
        subst hnil
        have hlast := Lib.hid (last_none (ps := []) (by simp [backTo]))
        clear hp0 hout
        have hout : decide (col < 0) = true ∨ (decide (col < 0) = false ∧ decide ((0 : Int) ≤ col) = true) := by
          by_cases h0 : col < 0
          · exact .inl (decide_eq_true h0)
          · exact .inr ⟨decide_eq_false h0, decide_eq_true (by omega)⟩
        rcases hout with d0 | ⟨d0, d2⟩
        all_goals
          go_enter Try.func41, Try.ntmps41
          go_wp2_with fail
          refine wp_loop_rounds 1 ?_
          rw [rounds_succ]
          go_wp2_with fail
          go_ret2
          exact ⟨by rw [hlast.out]; rfl, Below.refl _ _⟩
      · obtain ⟨m, hm⟩ : ∃ m : Nat, (ps.length : Int) - 1 = m := ⟨ps.length - 1, by omega⟩
        obtain ⟨z, hz⟩ : ∃ z, ps[m]? = some z := ⟨_, List.getElem?_eq_getElem (by omega)⟩
        obtain ⟨g2, o2, hA2, hg2, hc2⟩ := HI.out.at_ eltI hz
        have kz := hc2 0 _ rfl
        simp only [Nat.mul_one, Nat.add_zero] at kz
        have m0 : (0 : Int) ≤ m := by omega
        have m1 : (m : Int) < ps.length := by omega
        have d3 : decide ((0 : Int) ≤ (m : Int)) = true := decide_eq_true m0
        have hb1 : backTo ps 1 = [(m, z)] := by
          rw [backTo_succ, show ps.length - 1 - 0 = m by omega, List.getD_eq_getElem?_getD, hz]; rfl
        have HB1 := Lib.hid hb1
        have HPX1 := Lib.hid (backTo_prefix ps 1 ps.length (by omega))
        have HM1 := Lib.hid hm
        subst hA2
        clear hz hc2 hb1 hp0
        by_cases hz1 : z = -1
        · subst hz1
          rcases hout with d0 | ⟨d0, d2⟩
          all_goals
            go_enter Try.func41, Try.ntmps41
            go_wp2_with fail
            have hz0 : True := trivial
            go_loop [9] (fun vk => ∃ k : Nat, k ≤ ps.length ∧ vk = .int .i64 ((ps.length : Int) - 1 - k) ∧ ∀ y ∈ backTo ps k, y.2 = -1) (fun vk => ((intOf vk) + 1).toNat)
            case atStart => exact ⟨0, by omega, by have := HM1.out; go_num, by simp [backTo]⟩
            case round =>
              obtain ⟨k, hk, rfl, hall⟩ := hrel
              have HALL := Lib.hid hall
              clear hall
              by_cases hlt : k < ps.length
              · obtain ⟨m, hm⟩ : ∃ m : Nat, ps.length - 1 - k = m := ⟨_, rfl⟩
                have hmi : (ps.length : Int) - 1 - k = (m : Int) := by omega
                rw [hmi]
                obtain ⟨z, hz⟩ : ∃ z, ps[m]? = some z := ⟨_, List.getElem?_eq_getElem (by omega)⟩
                obtain ⟨g3, o3, hA3, hg3, hc3⟩ := HI.out.at_ eltI hz
                have kz3 := hc3 0 _ rfl
                simp only [Nat.mul_one, Nat.add_zero] at kz3
                cases hA3
                have hsuc : backTo ps (k + 1) = backTo ps k ++ [(m, z)] := by
                  rw [backTo_succ, hm, List.getD_eq_getElem?_getD, hz]; rfl
                have HPX := Lib.hid (backTo_prefix ps (k + 1) ps.length hlt)
                have HSU := Lib.hid hsuc
                have hmlt : (m : Int) < ps.length := by omega
                have hm0 : (0 : Int) ≤ m := by omega
                have HM := Lib.hid hmi
                have dd : decide ((0 : Int) ≤ (m : Int)) = true := decide_eq_true hm0
                clear hsuc hm hmi hz hc3
                by_cases hz1 : z = -1
                · subst hz1
                  have hrel : ∀ y ∈ backTo ps (k + 1), y.2 = -1 := fun y hy => by
                    rw [HSU.out] at hy
                    rcases List.mem_append.1 hy with hy | hy
                    · exact HALL.out y hy
                    · rw [List.mem_singleton.1 hy]
                  have HREL := Lib.hid hrel
                  clear hrel
                  go_wp2_with fail
                  go_round
                  case rel => first | exact ⟨k + 1, by omega, by have := HM.out; go_num, HREL.out⟩ | ((repeat apply Exists.intro); exact ⟨⟨k + 1, by omega, by have := HM.out; go_num, HREL.out⟩, rfl⟩)
                  case measure => simp [intOf]
                · have hne : (z != -1) = true := by simpa using hz1
                  have HZ := Lib.hid hz1
                  clear hz1
                  go_wp2_with fail
                  go_ret2
                  exact ⟨by rw [last_some HALL.out (x := (m, z)) HZ.out (by rw [← HSU.out]; exact HPX.out)]; rfl, Below.refl _ _⟩
              · obtain rfl : k = ps.length := by omega
                have hneg : (ps.length : Int) - 1 - ps.length = -1 := by omega
                rw [hneg]
                go_wp2_with fail
                go_ret2
                exact ⟨by rw [last_none HALL.out]; rfl, Below.refl _ _⟩
        · have hne : (z != -1) = true := by simpa using hz1
          have hlast := Lib.hid (last_some (q := []) (x := (m, z)) (ps := ps) (by simp) hz1 (by have := HPX1.out; rw [HB1.out] at this; exact this))
          clear hz1
          rcases hout with d0 | ⟨d0, d2⟩
          all_goals
            go_enter Try.func41, Try.ntmps41
            go_wp2_with fail
            go_ret2
            exact ⟨by rw [hlast.out]; rfl, Below.refl _ _⟩
end
end Go.Proofs.Ytnpamchdflfboaa
