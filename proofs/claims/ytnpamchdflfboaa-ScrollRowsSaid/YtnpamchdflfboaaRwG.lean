/- copyistref35.Where. -/
import Derived.Test.YtnpamchdflfboaaRwF
namespace Go.Proofs.Ytnpamchdflfboaa
open Go.RowKit
set_option linter.unusedVariables false
set_option linter.unusedSimpArgs false
section
variable {w w' : World} {A A' : Option Addr} {l l' : List RowE}
theorem hit0 {pos p : Int} : hit false pos p = true ↔ p = pos ∧ ¬ pos = -1 := by
  unfold hit; simp; constructor <;> (intro ⟨a, b⟩; subst_vars; first | exact ⟨rfl, a⟩ | exact ⟨b, rfl⟩)
theorem hit1 {pos p : Int} : hit true pos p = true ↔ pos < p ∧ ¬ p = -1 := by
  unfold hit; simp; exact And.comm
set_option maxRecDepth 100000 in
set_option maxHeartbeats 8000000 in
theorem whereR_any (c : Nat) (pos : Int) (h : RowsAt w A l) (hl : l.length ≤ 1000000) (hb : ∀ e ∈ l, e.ps.length ≤ 1000000) :
    Calls Try.prog 39 #[.slice A l.length c, .int .i64 pos] w (WherePost w pos (l.map (·.ps))) := by
  have HLB := Lib.hid hb
  have HH := Lib.hid h
  clear h hb
  go_enter Try.func39, Try.ntmps39
  go_wp2_with fail
  go_loop [7] (fun vi => ∃ k : Nat, k ≤ l.length ∧ vi = .int .i64 k ∧ scan (hit false pos) (l.map (·.ps)) 0 = scan (hit false pos) ((l.map (·.ps)).drop k) k) (fun vi => l.length - (intOf vi).toNat)
  case atStart => exact ⟨0, by omega, rfl, rfl⟩
  case round =>
    obtain ⟨k, hk, rfl, hsc⟩ := hrel
    by_cases hlt : k < l.length
    · obtain ⟨e, hx⟩ : ∃ x, l[k]? = some x := ⟨_, List.getElem?_eq_getElem hlt⟩
      have hI := HH.out.2 e (List.mem_of_getElem? hx)
      have hb2 := HLB.out e (List.mem_of_getElem? hx)
      obtain ⟨g, o, hAe, hg, hcg⟩ := HH.out.1.at_ eltR hx
      have hpl : (l.map (·.ps))[k]? = some e.ps := by rw [List.getElem?_map, hx]; rfl
      have hst := scan_step (f := hit false pos) hpl
      have i2 := hI.i2
      obtain ⟨A1, c1, cs, A2, c2, ps, fr, to, co⟩ := e
      dsimp only at hb2 hst i2
      subst hAe
      have k1 : w.cell? ⟨g, o + k * 5 + 1, none⟩ = some (.slice A2 ps.length c2) := hcg 1 _ rfl
      have hlt' : (k : Int) < l.length := by omega
      have HSC := Lib.hid hsc
      have HST := Lib.hid hst
      have HI2 := Lib.hid i2
      clear hsc hst i2 hI hx hcg hpl
      go_wp2_with fail
      go_loop [8] (fun vk => ∃ q : Nat, q ≤ ps.length ∧ vk = .int .i64 q ∧ ∀ j, j < q → ∀ x, ps[j]? = some x → hit false pos x = false) (fun vk => ps.length - (intOf vk).toNat)
      case atStart => exact ⟨0, by omega, rfl, fun j hj => by omega⟩
      case round =>
        obtain ⟨q, hq, rfl, hall⟩ := hrel
        have HALL := Lib.hid hall
        clear hall
        by_cases hqlt : q < ps.length
        · obtain ⟨z, hz⟩ : ∃ x, ps[q]? = some x := ⟨_, List.getElem?_eq_getElem hqlt⟩
          obtain ⟨g2, o2, hAe2, hg2, hcg2⟩ := HI2.out.at_ eltI hz
          subst hAe2
          have k0 := hcg2 0 _ rfl
          simp only [Nat.mul_one, Nat.add_zero] at k0
          have hze : ps[q] = z := by rw [List.getElem?_eq_getElem hqlt] at hz; exact Option.some.inj hz
          have HZ := Lib.hid hz
          have HZE := Lib.hid hze
          have hqlt' : (q : Int) < ps.length := by omega
          clear hz hze hcg2
          by_cases hp1 : z = pos
          · subst hp1
            have t1 : (z == z) = true := by simp
            by_cases hp2 : z = -1
            · have t2 : (z != -1) = false := by simpa using hp2
              have hno : hit false z z = false := by
                cases hh : hit false z z with
                | false => rfl
                | true => exact absurd hp2 (hit0.1 hh).2
              have HNO := Lib.hid hno
              clear hp2 hno
              go_wp2_with fail
              go_round
              case rel =>
                refine ⟨q + 1, by omega, by go_num, fun j hj x hxj => ?_⟩
                rcases Nat.lt_or_ge j q with h1 | h1
                · exact HALL.out j h1 x hxj
                · obtain rfl : j = q := by omega
                  rw [HZ.out] at hxj; cases hxj; exact HNO.out
              case measure => simp [intOf]; omega
            · have t2 : (z != -1) = true := by simpa using hp2
              have hyes : hit false z z = true := hit0.2 ⟨rfl, hp2⟩
              have HY := Lib.hid hyes
              clear hp2 hyes
              go_wp2_with fail
              go_ret3
              exact ⟨by unfold whereO; rw [HSC.out, HST.out, findIdx_step hqlt HALL.out (by rw [HZE.out]; exact HY.out)]; rfl, Below.refl _ _⟩
          · have t1 : (z == pos) = false := by simpa using hp1
            have hno : hit false pos z = false := by
              cases hh : hit false pos z with
              | false => rfl
              | true => exact absurd (hit0.1 hh).1 hp1
            have HNO := Lib.hid hno
            clear hp1 hno
            go_wp2_with fail
            go_round
            case rel =>
              refine ⟨q + 1, by omega, by go_num, fun j hj x hxj => ?_⟩
              rcases Nat.lt_or_ge j q with h1 | h1
              · exact HALL.out j h1 x hxj
              · obtain rfl : j = q := by omega
                rw [HZ.out] at hxj; cases hxj; exact HNO.out
            case measure => simp [intOf]; omega
        · have hqn : q = ps.length := by omega
          subst hqn
          have hnone := findIdx_none HALL.out
          have HNN := Lib.hid hnone
          clear hnone
          go_wp2_with fail
          go_round
          case rel => first | exact ⟨k + 1, by omega, by go_num, by rw [HSC.out, HST.out, HNN.out]⟩ | ((repeat apply Exists.intro); exact ⟨⟨k + 1, by omega, by go_num, by rw [HSC.out, HST.out, HNN.out]⟩, rfl⟩)
          case measure => simp [intOf]; omega
    · have hkn : k = l.length := by omega
      subst hkn
      have hnil : scan (hit false pos) (l.map (·.ps)) 0 = none := by rw [hsc, List.drop_of_length_le (by simp)]; rfl
      have HN1 := Lib.hid hnil
      clear hnil hsc
      go_wp2_with fail
      go_loop [9] (fun vi => ∃ k : Nat, k ≤ l.length ∧ vi = .int .i64 k ∧ scan (hit true pos) (l.map (·.ps)) 0 = scan (hit true pos) ((l.map (·.ps)).drop k) k) (fun vi => l.length - (intOf vi).toNat)
      case atStart => exact ⟨0, by omega, rfl, rfl⟩
      case round =>
        obtain ⟨k, hk, rfl, hsc⟩ := hrel
        by_cases hlt : k < l.length
        · obtain ⟨e, hx⟩ : ∃ x, l[k]? = some x := ⟨_, List.getElem?_eq_getElem hlt⟩
          have hI := HH.out.2 e (List.mem_of_getElem? hx)
          have hb2 := HLB.out e (List.mem_of_getElem? hx)
          obtain ⟨g, o, hAe, hg, hcg⟩ := HH.out.1.at_ eltR hx
          have hpl : (l.map (·.ps))[k]? = some e.ps := by rw [List.getElem?_map, hx]; rfl
          have hst := scan_step (f := hit true pos) hpl
          have i2 := hI.i2
          obtain ⟨A1, c1, cs, A2, c2, ps, fr, to, co⟩ := e
          dsimp only at hb2 hst i2
          subst hAe
          have k1 : w.cell? ⟨g, o + k * 5 + 1, none⟩ = some (.slice A2 ps.length c2) := hcg 1 _ rfl
          have hlt' : (k : Int) < l.length := by omega
          have HSC := Lib.hid hsc
          have HST := Lib.hid hst
          have HI2 := Lib.hid i2
          clear hsc hst i2 hI hx hcg hpl
          go_wp2_with fail
          go_loop [10] (fun vk => ∃ q : Nat, q ≤ ps.length ∧ vk = .int .i64 q ∧ ∀ j, j < q → ∀ x, ps[j]? = some x → hit true pos x = false) (fun vk => ps.length - (intOf vk).toNat)
          case atStart => exact ⟨0, by omega, rfl, fun j hj => by omega⟩
          case round =>
            obtain ⟨q, hq, rfl, hall⟩ := hrel
            have HALL := Lib.hid hall
            clear hall
            by_cases hqlt : q < ps.length
            · obtain ⟨z, hz⟩ : ∃ x, ps[q]? = some x := ⟨_, List.getElem?_eq_getElem hqlt⟩
              obtain ⟨g2, o2, hAe2, hg2, hcg2⟩ := HI2.out.at_ eltI hz
              subst hAe2
              have k0 := hcg2 0 _ rfl
              simp only [Nat.mul_one, Nat.add_zero] at k0
              have hze : ps[q] = z := by rw [List.getElem?_eq_getElem hqlt] at hz; exact Option.some.inj hz
              have HZ := Lib.hid hz
              have HZE := Lib.hid hze
              have hqlt' : (q : Int) < ps.length := by omega
              clear hz hze hcg2
              by_cases hp1 : pos < z
              · have t1 : decide (pos < z) = true := decide_eq_true hp1
                by_cases hp2 : z = -1
                · have t2 : (z != -1) = false := by simpa using hp2
                  have hno : hit true pos z = false := by
                    cases hh : hit true pos z with
                    | false => rfl
                    | true => exact absurd hp2 (hit1.1 hh).2
                  have HNO := Lib.hid hno
                  clear hp1 hp2 hno
                  go_wp2_with fail
                  go_round
                  case rel =>
                    refine ⟨q + 1, by omega, by go_num, fun j hj x hxj => ?_⟩
                    rcases Nat.lt_or_ge j q with h1 | h1
                    · exact HALL.out j h1 x hxj
                    · obtain rfl : j = q := by omega
                      rw [HZ.out] at hxj; cases hxj; exact HNO.out
                  case measure => simp [intOf]; omega
                · have t2 : (z != -1) = true := by simpa using hp2
                  have hyes : hit true pos z = true := hit1.2 ⟨hp1, hp2⟩
                  have HY := Lib.hid hyes
                  clear hp1 hp2 hyes
                  go_wp2_with fail
                  go_ret3
                  exact ⟨by unfold whereO; rw [HN1.out]; dsimp only; rw [HSC.out, HST.out, findIdx_step hqlt HALL.out (by rw [HZE.out]; exact HY.out)]; rfl, Below.refl _ _⟩
              · have t1 : decide (pos < z) = false := decide_eq_false hp1
                have hno : hit true pos z = false := by
                  cases hh : hit true pos z with
                  | false => rfl
                  | true => exact absurd (hit1.1 hh).1 hp1
                have HNO := Lib.hid hno
                clear hp1 hno
                go_wp2_with fail
                go_round
                case rel =>
                  refine ⟨q + 1, by omega, by go_num, fun j hj x hxj => ?_⟩
                  rcases Nat.lt_or_ge j q with h1 | h1
                  · exact HALL.out j h1 x hxj
                  · obtain rfl : j = q := by omega
                    rw [HZ.out] at hxj; cases hxj; exact HNO.out
                case measure => simp [intOf]; omega
            · have hqn : q = ps.length := by omega
              subst hqn
              have hnone := findIdx_none HALL.out
              have HNN := Lib.hid hnone
              clear hnone
              go_wp2_with fail
              go_round
              case rel => first | exact ⟨k + 1, by omega, by go_num, by rw [HSC.out, HST.out, HNN.out]⟩ | ((repeat apply Exists.intro); exact ⟨⟨k + 1, by omega, by go_num, by rw [HSC.out, HST.out, HNN.out]⟩, rfl⟩)
              case measure => simp [intOf]; omega
        · have hkn : k = l.length := by omega
          subst hkn
          have hnil : scan (hit true pos) (l.map (·.ps)) 0 = none := by rw [hsc, List.drop_of_length_le (by simp)]; rfl
          have HN2 := Lib.hid hnil
          clear hnil hsc
          go_wp2_with fail
          go_ret3
          exact ⟨by unfold whereO; rw [HN1.out]; dsimp only; rw [HN2.out]; rfl, Below.refl _ _⟩
end
end Go.Proofs.Ytnpamchdflfboaa
