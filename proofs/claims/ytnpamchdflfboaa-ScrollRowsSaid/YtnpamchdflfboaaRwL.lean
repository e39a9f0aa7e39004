/- copyistlaw37.ScrollRows: the walk. -/
import Derived.Test.YtnpamchdflfboaaRwK
namespace Go.Proofs.Ytnpamchdflfboaa
open Go.RowKit Go.Shelf
set_option linter.unusedVariables false
set_option linter.unusedSimpArgs false
section
variable {w w' : World} {A A' : Option Addr} {l l' : List RowE}
theorem SameE.symm {e e' : RowE} (h : SameE e e') : SameE e' e := ⟨h.cs.symm, h.ps.symm, h.from_.symm, h.to.symm, h.cont.symm⟩
theorem SameL.symm (h : SameL l l') : SameL l' l := ⟨h.len.symm, fun k e e' a b => (h.at_ k e' e b a).symm⟩
theorem SameL.mem (h : SameL l l') {e' : RowE} (he : e' ∈ l') : ∃ e ∈ l, SameE e e' := by
  obtain ⟨k, hk, hx⟩ := List.getElem_of_mem he
  have hkl : k < l.length := by rw [h.len]; exact hk
  exact ⟨l[k], List.getElem_mem hkl, h.at_ k _ _ (List.getElem?_eq_getElem hkl) (by rw [List.getElem?_eq_getElem hk, hx])⟩
theorem rowV_form (n : Nat) (o : Option (Nat × Nat)) : ∃ a b, rowV n o = .tuple #[.int .i64 a, .bool b] := by
  unfold rowV
  split
  · exact ⟨_, _, rfl⟩
  · split
    · exact ⟨_, _, rfl⟩
    · exact ⟨_, _, rfl⟩
set_option maxRecDepth 100000 in
set_option maxHeartbeats 4000000 in
theorem rows_true (c : Nat) (pos height start row col : Int) (h : RowsAt w A l) (hl : l.length ≤ maxLen) :
    Calls Try.prog 7 #[.slice A l.length c, .int .i64 pos, .int .i64 height, .int .i64 start, .int .i64 row, .int .i64 col] w fun e w' => e = .returned (.bool true) ∧ Below w.heap.size w w' := by
  unfold maxLen at hl
  by_cases h20 : 20 < l.length
  · have d1 : decide ((20 : Int) < l.length) = true := decide_eq_true (by omega)
    clear h h20
    go_enter Try.func7, Try.ntmps7
    go_wp2_with fail
    refine (awake_true w).mono ?_
    rintro e w' ⟨rfl, hb⟩
    go_wp2_with fail
    go_ret
    exact ⟨rfl, hb⟩
  · have d1 : decide ((20 : Int) < l.length) = false := decide_eq_false (by omega)
    have HH := Lib.hid h
    clear h
    have h20' : l.length ≤ 20 := by omega
    clear h20 hl
    go_enter Try.func7, Try.ntmps7
    go_wp2_with fail
    go_loop [13] (fun vi => ∃ k : Nat, k ≤ l.length ∧ vi = .int .i64 k ∧ ∀ e ∈ l.take k, e.cs.length ≤ 60 ∧ e.ps.length ≤ 60) (fun vi => l.length - (intOf vi).toNat)
    case atStart => exact ⟨0, by omega, rfl, by simp⟩
    case round =>
      obtain ⟨k, hk, rfl, hall⟩ := hrel
      have HALL := Lib.hid hall
      clear hall
      by_cases hlt : k < l.length
      · obtain ⟨e, hx⟩ : ∃ x, l[k]? = some x := ⟨_, List.getElem?_eq_getElem hlt⟩
        have hI := HH.out.2 e (List.mem_of_getElem? hx)
        have n1 := hI.l1
        have n2 := hI.l2
        have n3 := hI.m1
        have n4 := hI.m2
        obtain ⟨g, o, hAe, hg, hcg⟩ := HH.out.1.at_ eltR hx
        have htk : l.take (k + 1) = l.take k ++ [e] := by rw [List.take_succ_eq_append_getElem hlt]; congr 2; exact (List.getElem?_eq_some_iff.1 hx).2
        have HTK := Lib.hid htk
        obtain ⟨A1, c1, cs, A2, c2, ps, fr, to, co⟩ := e
        dsimp only at n1 n2 n3 n4
        have k0 : w.cell? ⟨g, o + k * 5, none⟩ = some (.slice A1 cs.length c1) := hcg 0 _ rfl
        have k1 : w.cell? ⟨g, o + k * 5 + 1, none⟩ = some (.slice A2 ps.length c2) := hcg 1 _ rfl
        have hlt' : (k : Int) < l.length := by omega
        unfold maxLen at n3 n4
        subst hAe
        clear hI hx hcg htk
        by_cases hp : 60 < ps.length
        · have d2 : decide ((60 : Int) < ps.length) = true := decide_eq_true (by omega)
          go_wp2_with fail
          refine (awake_true w).mono ?_
          rintro e w' ⟨rfl, hb⟩
          go_wp2_with fail
          go_ret
          exact ⟨rfl, hb⟩
        · have d2 : decide ((60 : Int) < ps.length) = false := decide_eq_false (by omega)
          by_cases hc : 60 < cs.length
          · have d3 : decide ((60 : Int) < cs.length) = true := decide_eq_true (by omega)
            go_wp2_with fail
            refine (awake_true w).mono ?_
            rintro e w' ⟨rfl, hb⟩
            go_wp2_with fail
            go_ret
            exact ⟨rfl, hb⟩
          · have d3 : decide ((60 : Int) < cs.length) = false := decide_eq_false (by omega)
            have HREL : Hid (∀ e ∈ l.take (k + 1), e.cs.length ≤ 60 ∧ e.ps.length ≤ 60) := Lib.hid (by
              rw [HTK.out]
              intro e he
              rcases List.mem_append.1 he with he | he
              · exact HALL.out e he
              · rw [List.mem_singleton.1 he]; exact ⟨by dsimp only; omega, by dsimp only; omega⟩)
            go_wp2_with fail
            go_round
            case rel => first | exact ⟨k + 1, by omega, by go_num, HREL.out⟩ | ((repeat apply Exists.intro); exact ⟨⟨k + 1, by omega, by go_num, HREL.out⟩, rfl⟩)
            case measure => simp [intOf]; omega
      · have hkn : k = l.length := by omega
        subst hkn
        have hall := HALL.out
        rw [List.take_length] at hall
        have HB := Lib.hid hall
        clear hall HALL hlt hk
        go_wp2_with fail
        refine (copy_any c HH.out (by omega) (fun e he => by have := HB.out e he; omega)).mono ?_
        rintro e w1 ⟨A1, c1, l', rfl, hl1, hl2, hr1, hsame, hb1⟩
        have hlen := hsame.len
        have hps := hsame.ps
        have hB' : ∀ e ∈ l', e.cs.length ≤ 60 ∧ e.ps.length ≤ 60 := fun e he => by
          obtain ⟨e0, h0, hs⟩ := hsame.mem he
          have := HB.out e0 h0
          rw [hs.cs, hs.ps] at this; exact this
        have HB' := Lib.hid hB'
        have hr0 := HH.out.up hb1
        have hRow1 := row_any c1 pos hr1 (by omega) (fun e he => by have := HB'.out e he; omega)
        rw [← hlen, ← hps] at hRow1
        have hRow2 := fun w2 (hb : Below w.heap.size w w2) => rowR_any c pos (HH.out.up hb) (by omega) (fun e he => by have := HB.out e he; omega)
        obtain ⟨ra, rb, hrv⟩ := rowV_form l.length (whereO pos (l.map (·.ps)))
        rw [hrv] at hRow1 hRow2
        have hSt1 := fun w2 (hb : Below w1.heap.size w1 w2) => startI_any c1 pos (hr1.up hb) (by omega)
        rw [← hlen] at hSt1
        have hst : startTo l' pos l.length = startTo l pos l.length := (startTo_same hsame pos _).symm
        simp only [hst] at hSt1
        have hSt2 := fun w2 (hb : Below w.heap.size w w2) => startR_any c pos (HH.out.up hb) (by omega)
        have hPt1 := fun w2 (hb : Below w1.heap.size w1 w2) => point_any c1 height start row col (hr1.up hb) (by omega) (fun e he => by have := HB'.out e he; omega)
        rw [← hlen, ← hps] at hPt1
        have hPt2 := fun w2 (hb : Below w.heap.size w w2) => pointR_any c height start row col (HH.out.up hb) (by omega) (fun e he => by have := HB.out e he; omega)
        have hSm := fun w2 (hb : Below w1.heap.size w1 w2) (hb0 : Below w.heap.size w w2) => sameR_true c1 c (hr1.up hb) (HH.out.up hb0) hsame.symm (by omega) (fun e he => by have := HB'.out e he; omega)
        rw [← hlen] at hSm
        generalize startTo l pos l.length = st at *
        generalize pointI (l.map (·.ps)) height start row col = pt at *
        have R1 := Lib.hid hRow1
        have R2 := Lib.hid hRow2
        have S1 := Lib.hid hSt1
        have S2 := Lib.hid hSt2
        have P1 := Lib.hid hPt1
        have P2 := Lib.hid hPt2
        have M := Lib.hid hSm
        have HLEN := Lib.hid hlen
        rw [← hlen]
        clear hRow1 hRow2 hSt1 hSt2 hPt1 hPt2 hSm hlen hps hrv hst hsame hr0 hr1 hB' hl1 hl2
        go_wp2_with fail
        refine R1.out.mono ?_
        rintro e w2 ⟨rfl, hb2⟩
        have h12 := hb2
        have h02 := up2 hb1 hb2
        go_wp2_with fail
        refine (R2.out w2 h02).mono ?_
        rintro e w3 ⟨rfl, hb3⟩
        have h13 := up2 h12 hb3
        have h03 := up2 h02 hb3
        go_wp2_with fail
        refine (S1.out w3 h13).mono ?_
        rintro e w4 ⟨rfl, hb4⟩
        have h14 := up2 h13 hb4
        have h04 := up2 h03 hb4
        go_wp2_with fail
        refine (S2.out w4 h04).mono ?_
        rintro e w5 ⟨rfl, hb5⟩
        have h15 := up2 h14 hb5
        have h05 := up2 h04 hb5
        go_wp2_with fail
        refine (P1.out w5 h15).mono ?_
        rintro e w6 ⟨rfl, hb6⟩
        have h16 := up2 h15 hb6
        have h06 := up2 h05 hb6
        go_wp2_with fail
        refine (P2.out w6 h06).mono ?_
        rintro e w7 ⟨rfl, hb7⟩
        have h17 := up2 h16 hb7
        have h07 := up2 h06 hb7
        go_wp2_with fail
        refine (M.out w7 h17 h07).mono ?_
        rintro e w8 ⟨rfl, hb8⟩
        have h08 := up2 h07 hb8
        go_wp2_with fail
        refine (awake_true w8).mono ?_
        rintro e w9 ⟨rfl, hb9⟩
        go_wp2_with fail
        go_ret
        exact ⟨rfl, up2 h08 hb9⟩
end
end Go.Proofs.Ytnpamchdflfboaa
