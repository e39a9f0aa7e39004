/- copyistlaw25.KillTurns: the walk. -/
import Derived.Test.YtmnmloebomlllaaDoorKrS
namespace Go.Proofs.YtmnmloebomlllaaDoor
open Go.RowKit
set_option linter.unusedVariables false
set_option linter.unusedSimpArgs false
section
variable {w w' : World} {b N : Nat} {L : List ByteArray} {most at_ : Nat} {v : Value}
set_option maxRecDepth 100000 in
set_option maxHeartbeats 1000000 in
theorem turns_bad (A : Option Addr) (c : Nat) (l : List KAct) (most n : Int) (w : World) (h : RSl encA w A l) (hl : l.length ≤ 9223372036854775807) (hts : ∀ a ∈ l, a.text.size ≤ 9223372036854775807) (hT : Tabs w.heap.size w) (hb : lightB l = false) :
    Calls Tryd.prog 3 #[.int .i64 most, .slice A l.length c, .int .i64 n] w fun e w' => e = .returned (.bool true) ∧ Below w.heap.size w w' := by
  have HLV := Lib.hid (lives_true hT (Nat.le_refl _))
  have hli := fun w1 (hb1 : Below w.heap.size w w1) => light_any (w := w1) c (h.up hb1) hl hts
  rw [hb] at hli
  have HLI := Lib.hid hli
  clear hli h hT hts hb
  go_enter Tryd.func3, Tryd.ntmps3
  go_wp2_with fail
  refine HLV.out.mono ?_
  rintro e w1 ⟨rfl, hb1⟩
  go_wp2_with fail
  refine (HLI.out w1 hb1).mono ?_
  rintro e w' ⟨rfl, rfl⟩
  go_wp2_with fail
  go_ret
  exact ⟨rfl, hb1⟩
set_option maxRecDepth 100000 in
set_option maxHeartbeats 4000000 in
theorem turns_good (A : Option Addr) (c : Nat) (l : List KAct) (most n : Int) (w : World) (h : RSl encA w A l) (hl : l.length ≤ 60) (hts : ∀ a ∈ l, a.text.size ≤ 40) (hT : Tabs w.heap.size w) (hlb : lightB l = true) :
    Calls Tryd.prog 3 #[.int .i64 most, .slice A l.length c, .int .i64 n] w fun e w' => e = .returned (.bool true) ∧ Below w.heap.size w w' := by
  have HLV := Lib.hid (lives_true hT (Nat.le_refl _))
  have hli := fun w1 (hb1 : Below w.heap.size w w1) => light_any (w := w1) c (h.up hb1) (by omega) (fun a ha => by have := hts a ha; omega)
  rw [hlb] at hli
  have HLI := Lib.hid hli
  have HH := Lib.hid h
  have HT := Lib.hid hT
  have HTS := Lib.hid hts
  have hp := pick_pos most 60 (by omega)
  have hpk := fun w1 => pick_any most 60 w1 (by omega) (by omega)
  obtain ⟨m, hm⟩ : ∃ m : Nat, pickI most 60 + 1 = m := ⟨(pickI most 60 + 1).toNat, by omega⟩
  have hmp : pickI most 60 = (m : Int) - 1 := by omega
  rw [hmp] at hpk hp
  have HPK := Lib.hid hpk
  have hm0 : 1 ≤ m := by omega
  have hm1 : m ≤ 60 := by omega
  have hp2 := pick_pos n 200 (by omega)
  have hpk2 := fun w1 => pick_any n 200 w1 (by omega) (by omega)
  generalize pickI n 200 = q at hp2 hpk2
  have HPK2 := Lib.hid hpk2
  clear hli h hT hts hlb hm hmp hp hpk hpk2
  go_enter Tryd.func3, Tryd.ntmps3
  go_wp2_with fail
  refine HLV.out.mono ?_
  rintro e w1 ⟨rfl, hb1⟩
  go_wp2_with fail
  refine (HLI.out w1 hb1).mono ?_
  rintro e w' ⟨rfl, rfl⟩
  go_wp2_with fail
  refine (HPK.out w1).mono ?_
  rintro e w' ⟨rfl, rfl⟩
  have e1 : (1 : Int) + ((m : Int) - 1) = m := by omega
  have E1 := Lib.hid e1
  clear e1
  go_wp2_with fail
  rw [E1.out]
  refine (knew_ok m w1 hm0 hm1).mono ?_
  rintro e w2 ⟨rfl, hr2, hb2⟩
  have h2 : Ring w2 w1.heap.size [] m 0 := ⟨_, _, hr2, rfl⟩
  have hb12 := up2 hb1 hb2
  have hs01 := hb1.size
  obtain ⟨b1, hb1e⟩ : ∃ b1, w1.heap.size = b1 := ⟨_, rfl⟩
  rw [hb1e] at h2 hs01
  rw [hb1e]
  clear hr2 hb1e hb1 hb2
  go_wp2_with fail
  go_loopw [9] (fun vi wr => ∃ (k : Nat) (L : List ByteArray) (at_ : Nat), k ≤ l.length ∧ vi = .int .i64 k ∧ Ring wr b1 L m at_ ∧ (∀ x ∈ L, x.size ≤ 40 * k) ∧ Below w.heap.size w wr) (fun vi _ => l.length - (intOf vi).toNat)
  case atStart => exact ⟨0, [], 0, by omega, rfl, h2, by simp, hb12⟩
  case round =>
    obtain ⟨k, L, at_, hk, rfl, hR, hsz, hbel⟩ := hrel
    clear h2 hb12
    have HSZ := Lib.hid hsz
    clear hsz
    by_cases hlt : k < l.length
    · obtain ⟨a, hx⟩ : ∃ a, l[k]? = some a := ⟨_, List.getElem?_eq_getElem hlt⟩
      have ha := HTS.out a (List.mem_of_getElem? hx)
      have hhd := head_size HSZ.out
      have hT1 := HT.out.up hbel
      have hdo := hR.cDo a (by omega) hT1 hs01
      have hsz' := doK_size (most := m) (at_ := at_) HSZ.out a ha
      obtain ⟨r, hr⟩ : ∃ r, doK m L at_ a = r := ⟨_, rfl⟩
      rw [hr] at hdo hsz'
      obtain ⟨kind, n', text, ahead⟩ := a
      dsimp only at *
      obtain ⟨g, o, rfl, hg, hc⟩ := (HH.out.up hbel).at_ eltA hx
      have c0 : wr.cell? ⟨g, o + k * 4, none⟩ = some (.int .i64 kind) := hc 0 _ rfl
      have c1 : wr.cell? ⟨g, o + k * 4 + 1, none⟩ = some (.int .i64 n') := hc 1 _ rfl
      have c2 : wr.cell? ⟨g, o + k * 4 + 2, none⟩ = some (.string text) := hc 2 _ rfl
      have c3 : wr.cell? ⟨g, o + k * 4 + 3, none⟩ = some (.bool ahead) := hc 3 _ rfl
      have HDO := Lib.hid hdo
      have HSZ' := Lib.hid hsz'
      have hlt' : (k : Int) < l.length := by omega
      clear hdo hr hc hsz' hx hhd ha hT1 hR
      go_wp2_with fail
      refine HDO.out.mono ?_
      rintro e w4 ⟨rfl, hR4, ho4⟩
      have hb4 : Below w.heap.size w w4 := hbel.trans (ho4.below hbel.size (fun k hk => by subst hk; exact hs01))
      clear ho4 c0 c1 c2 c3
      go_wp2_with fail
      go_roundw
      case rel => exact ⟨k + 1, r.L, r.at_, by omega, by go_num, hR4, by rw [Nat.mul_add]; exact HSZ'.out, hb4⟩
      case measure => simp [intOf]; omega
    · have hkn : k = l.length := by omega
      subst hkn
      clear hlt hk
      have hl' := hR.len
      have HRB := Lib.hid hR.lt
      go_wp2_with fail
      refine hR.all.mono ?_
      rintro e w5 ⟨v5, rfl, hown5, hb5⟩
      have hR5 := hR.up hb5
      have hbel5 := up2 hbel hb5
      obtain ⟨A5, c5, rfl, hA51, hA52, hA53⟩ := hown5.shape eltS
      have HA := Lib.hid hA53
      have HOW := Lib.hid hown5
      clear hA53 hown5
      by_cases h0 : L.length = 0
      · obtain rfl := nil_of_len h0
        go_wp2_with fail
        refine (hR5.yank0 1).mono ?_
        rintro e w6 ⟨rfl, rfl⟩
        go_wp2_with fail
        go_ret
        exact ⟨rfl, hbel5⟩
      · have hnz : ((L.length : Int) == 0) = false := by simp; exact fun e => h0 (by rw [e]; rfl)
        have hpos : 0 < L.length := by omega
        have hat : at_ < L.length := by rcases hl'.2.2.2 with h | h <;> omega
        have cy := hR5.yank hpos 1
        rw [turn_yank _ _ hpos hat] at cy
        obtain ⟨s0, hs0⟩ : ∃ s0, L.getD at_ ByteArray.empty = s0 := ⟨_, rfl⟩
        have CY := Lib.hid cy
        have HS0 := Lib.hid hs0
        clear cy hs0 hR hR5
        go_wp2_with fail
        refine CY.out.mono ?_
        rintro e w6 ⟨rfl, hR6, ho6⟩
        rw [HS0.out]
        go_wp2_with fail
        refine (HPK2.out w6).mono ?_
        rintro e w' ⟨rfl, rfl⟩
        go_wp2_with fail
        refine (hR6.pop hpos q).mono ?_
        rintro e w7 ⟨rfl, hR7, ho7⟩
        have cb := hR7.pop hpos (-q)
        rw [turn_back _ _ _ hpos hat] at cb
        have CB := Lib.hid cb
        generalize L.getD (turnTo L.length at_ (q.tmod ↑L.length)) ByteArray.empty = s1 at *
        clear cb hR7
        go_wp2_with fail
        refine CB.out.mono ?_
        rintro e w8 ⟨rfl, hR8, ho8⟩
        rw [HS0.out]
        go_wp2_with fail
        have ho58 : Only (· = b1) w5 w8 := (ho6.trans ho7).trans ho8
        have hbel8 : Below w.heap.size w w8 := hbel5.trans (ho58.below hbel5.size (fun k hk => by subst hk; exact hs01))
        have hRb := HRB.out
        have hA8 : RSl encS w8 A5 L := HA.out.kept ho58.size (fun g o hg => by
          subst hg
          have h1 := HOW.out.base (g := g) rfl
          exact ho58.block g (HOW.out.lt (g := g) rfl) (fun e => absurd (show g = b1 from e) (by have := hR8.lt; have := hb5.size; omega)))
        refine (own_any hA8 c5 (by omega)).mono ?_
        rintro e w9 ⟨v9, rfl, hown9, hb9⟩
        have hR9 := hR8.up hb9
        have hbel9 := up2 hbel8 hb9
        have hRb8 := hR8.lt
        obtain ⟨A9, c9, rfl, hB91, hB92, hB93⟩ := hown9.shape eltS
        have HPERM := Lib.hid (restS_zero L at_ hpos)
        obtain ⟨B8, hB8⟩ : ∃ B8, w8.heap.size = B8 := ⟨_, rfl⟩
        rw [hB8] at hown9 hRb8
        have hB8' : w.heap.size ≤ B8 := by have := hbel8.size; omega
        clear hB8 hB93 hR6 hR8 ho6 ho7 ho8 ho58 hA8 hb9 hbel8 hbel5 hbel hb5 HA HOW
        go_wp2_with fail
        go_loopw [15, 16] (fun vl vi wr => ∃ (i : Nat) (left : List ByteArray), i ≤ L.length ∧ vi = .int .i64 i ∧ ROwn encS 9 1 B8 wr vl left ∧ left.Perm (restS L at_ i) ∧ Ring wr b1 L m ((at_ + i) % L.length) ∧ Below w.heap.size w wr) (fun _ vi _ => L.length - (intOf vi).toNat)
        case atStart => exact ⟨0, L, by omega, rfl, hown9, HPERM.out, by rw [Nat.add_zero, Nat.mod_eq_of_lt hat]; exact hR9, hbel9⟩
        case round =>
          obtain ⟨i, left, hi, rfl, hown, hperm, hR, hbel⟩ := hrel
          clear hown9 hR9 hbel9 HPERM
          have HPERM := Lib.hid hperm
          clear hperm
          by_cases hil : i < L.length
          · have hpm : (at_ + i) % L.length < L.length := Nat.mod_lt _ hpos
            have cp := hR.pop hpos 1
            rw [turn_one _ _ hpos hpm, Nat.mod_add_mod] at cp
            have hst := restS_step L at_ i hil
            obtain ⟨x, hx⟩ : ∃ x, L.getD ((at_ + i + 1) % L.length) ByteArray.empty = x := ⟨_, rfl⟩
            rw [hx] at hst
            have HX := Lib.hid hx
            have hperm : left.Perm (x :: restS L at_ (i + 1)) := hst ▸ HPERM.out
            have hmem : x ∈ left := hperm.mem_iff.2 (by simp)
            have hlen : left.length = L.length - (i + 1) + 1 := by rw [hperm.length_eq, List.length_cons, restS_len]
            have HP := Lib.hid hperm
            have HMEM := Lib.hid hmem
            have CP := Lib.hid cp
            have hRl := hR.lt
            have hil' : (i : Int) < L.length := by omega
            have hll : left.length ≤ 60 := by omega
            clear cp hst hx hperm hmem hR hlen
            go_wp2_with fail
            refine CP.out.mono ?_
            rintro e w10 ⟨rfl, hR10, ho10⟩
            rw [HX.out]
            have hown10 : ROwn encS 9 1 B8 w10 _ left := hown.kept fun g hg => ho10.block g (hown.lt hg) (fun e => absurd (show g = b1 from e) (by have := hown.base hg; omega))
            have hbel10 : Below w.heap.size w w10 := hbel.trans (ho10.below hbel.size (fun k hk => by subst hk; exact hs01))
            obtain ⟨A10, c10, rfl, hC1, hC2, hC3⟩ := hown10.shape eltS
            clear hown ho10 hbel
            go_wp2_with fail
            go_loop [19] (fun vk => ∃ k : Nat, k ≤ left.length ∧ vk = .int .i64 k ∧ ∀ j, j < k → left[j]? ≠ some x) (fun vk => left.length - (intOf vk).toNat)
            case atStart => exact ⟨0, by omega, rfl, fun j hj => by omega⟩
            case round =>
              obtain ⟨k, hk, rfl, hno⟩ := hrel
              have hkl : k < left.length := by
                rcases Nat.lt_or_ge k left.length with h | h
                · exact h
                · obtain ⟨j, hj, hje⟩ := List.getElem_of_mem HMEM.out
                  exact absurd (by rw [List.getElem?_eq_getElem hj, hje]) (hno j (by omega))
              obtain ⟨y, hy⟩ : ∃ y, left[k]? = some y := ⟨_, List.getElem?_eq_getElem hkl⟩
              obtain ⟨g, o, rfl, hg, hc⟩ := hC3.at_ eltS hy
              have cy := hc 0 _ rfl
              simp only [Nat.mul_one, Nat.add_zero] at cy
              have HNO := Lib.hid hno
              have HY := Lib.hid hy
              have hkl' : (k : Int) < left.length := by omega
              clear hno hy hc
              by_cases hyx : y = x
              · subst hyx
                have hknz : ((k : Int) == (left.length : Int)) = false := by simp; omega
                have hbe : Below w10.heap.size w10 (w10.drew.alloc (.cells #[] 9)) := ((Below.refl _ w10).drew).alloc (Nat.le_refl _) _
                have hown0 := ROwn.empty (enc := encS) (E := 9) (k := 1) w10.heap.size w10.drew (Nat.le_refl _)
                obtain ⟨v1, w11, happ1, hown1, hg1, ho1⟩ := append_run eltS hown0 hbe.size ((hC3.up hbe).take eltS k) c10 (by simp; omega) (by omega)
                have hb1 : Below w10.heap.size w10 w11 := hbe.grown hg1 hbe.size (fun j hj => hown0.base hj)
                obtain ⟨v2, w12, happ2, hown2, hg2, ho2⟩ := append_run eltS hown1 hb1.size ((hC3.up hb1).drop eltS (n := k + 1) (cap := c10) (by omega) hC1) (c10 - (k + 1)) (by simp; omega) (by omega)
                have hb2 : Below w10.heap.size w10 w12 := hb1.grown hg2 hb1.size (fun j hj => hown1.base hj)
                have hyk : left[k] = y := by have := HY.out; rw [List.getElem?_eq_getElem hkl] at this; exact Option.some.inj this
                have HPE := Lib.hid (erase_perm hkl hyk HP.out)
                have h10s : B8 ≤ w10.heap.size := by
                  have := hown10.base (g := g) rfl
                  have := hown10.lt (g := g) rfl
                  omega
                have HOW2 := Lib.hid (hown2.low h10s)
                rw [List.length_take, Nat.min_eq_left (by omega)] at happ1
                rw [List.length_drop] at happ2
                simp only [List.nil_append] at HOW2
                clear hown1 hown2 hg1 hg2 ho1 ho2 hown0
                have HP1 := Lib.hid happ1
                unfold maxLen at hC2
                have k0 : (0 : Int) ≤ k := by omega
                have k1 : (k : Int) ≤ c10 := by omega
                have k2 : (k : Int) + 1 ≤ left.length := by omega
                have k3 : (0 : Int) ≤ (k : Int) + 1 := by omega
                have hw2 : IntKind.i64.wrap ((k : Int) + 1) = (k : Int) + 1 := IntWalk.i64_in _ (by omega)
                by_cases hcp : c10 = k + 1
                · subst hcp
                  rw [if_pos rfl, Nat.sub_self, show left.length - (k + 1) = 0 by omega] at happ2
                  have HP2 := Lib.hid happ2
                  clear happ1 happ2
                  go_wp2_with fail
                  refine wp_region_mix w10.heap.size 10 [([1, 2, 3, 5, 6, 7, 8], 0), ([], 4), ([], 9)] [] (by kernel_rfl) (fun c d v a w h => by cases d <;> exact h) (by kernel_rfl) ?_
                  simp only [wpMix, pk_nil, pk_cons, pushAt_zero, pushAt_succ, List.drop_succ_cons, List.drop_zero]
                  repeat (go_big_quiet_step (fail))
                  refine wpQuiet_nil ?_
                  go_wp2_with fail
                  refine thenQ_normal ⟨⟨⟨_, hbe⟩, rfl⟩, ?_⟩
                  refine wpQuiet_nil ?_
                  go_wp2_with (at_builtin; refine wpList_app_run rfl _ _ _ rfl rfl rfl HP1.out ?_)
                  refine thenQ_normal ⟨⟨⟨_, hb1⟩, rfl⟩, ?_⟩
                  refine wpQuiet_nil ?_
                  go_wp2_with (at_builtin; refine wpList_app_run rfl _ _ _ rfl rfl rfl HP2.out ?_)
                  refine thenQ_normal ⟨⟨⟨_, hb2⟩, rfl⟩, ?_⟩
                  refine wpQuiet_nil ?_
                  go_wp2_with fail
                  go_roundw
                  case rel => exact ⟨i + 1, left.take k ++ left.drop (k + 1), by omega, by go_num, HOW2.out, HPE.out, by rw [Nat.add_assoc] at hR10; exact hR10.up hb2, hbel10.trans (hb2.mono hbel10.size)⟩
                  case measure => simp [intOf]; omega
                · rw [if_neg hcp] at happ2
                  simp only [Option.map_some, Addr.add, Nat.mul_one] at happ2
                  have k4 : ((k : Int) + 1) < c10 := by omega
                  have k5 : ((k : Int) + 1).toNat = k + 1 := by omega
                  have HP2 := Lib.hid happ2
                  clear happ1 happ2
                  go_wp2_with fail
                  refine wp_region_mix w10.heap.size 10 [([1, 2, 3, 5, 6, 7, 8], 0), ([], 4), ([], 9)] [] (by kernel_rfl) (fun c d v a w h => by cases d <;> exact h) (by kernel_rfl) ?_
                  simp only [wpMix, pk_nil, pk_cons, pushAt_zero, pushAt_succ, List.drop_succ_cons, List.drop_zero]
                  repeat (go_big_quiet_step (fail))
                  refine wpQuiet_nil ?_
                  go_wp2_with fail
                  refine thenQ_normal ⟨⟨⟨_, hbe⟩, rfl⟩, ?_⟩
                  refine wpQuiet_nil ?_
                  go_wp2_with (at_builtin; refine wpList_app_run rfl _ _ _ rfl rfl rfl HP1.out ?_)
                  refine thenQ_normal ⟨⟨⟨_, hb1⟩, rfl⟩, ?_⟩
                  refine wpQuiet_nil ?_
                  go_wp2_with (at_builtin; refine wpList_app_run rfl _ _ _ rfl rfl rfl HP2.out ?_)
                  refine thenQ_normal ⟨⟨⟨_, hb2⟩, rfl⟩, ?_⟩
                  refine wpQuiet_nil ?_
                  go_wp2_with fail
                  go_roundw
                  case rel => exact ⟨i + 1, left.take k ++ left.drop (k + 1), by omega, by go_num, HOW2.out, HPE.out, by rw [Nat.add_assoc] at hR10; exact hR10.up hb2, hbel10.trans (hb2.mono hbel10.size)⟩
                  case measure => simp [intOf]; omega
              · have hne := str_ne hyx
                go_wp2_with fail
                go_round
                case rel =>
                  refine ⟨k + 1, by omega, by go_num, fun j hj => ?_⟩
                  rcases Nat.lt_or_ge j k with h | h
                  · exact HNO.out j h
                  · obtain rfl : j = k := by omega
                    rw [HY.out]; exact fun e => hyx (Option.some.inj e)
                case measure => simp [intOf]; omega
          · have hin : i = L.length := by omega
            subst hin
            have hpm : (at_ + L.length) % L.length = at_ := by rw [Nat.add_mod_right, Nat.mod_eq_of_lt hat]
            rw [hpm] at hR
            have cy := hR.yank hpos 1
            rw [turn_yank _ _ hpos hat] at cy
            have CY := Lib.hid cy
            have HLM := Lib.hid hR.len
            clear cy hR hown hpm hil hi
            go_wp2_with fail
            refine CY.out.mono ?_
            rintro e w13 ⟨rfl, hR13, ho13⟩
            rw [HS0.out]
            have hbel13 : Below w.heap.size w w13 := hbel.trans (ho13.below hbel.size (fun k hk => by subst hk; exact hs01))
            have hck := hR13.kill_ok ⟨#[110, 101, 119]⟩ (by decide) (HT.out.up hbel13) vldNew
            obtain ⟨L2, hL2⟩ : ∃ L2, ((⟨#[110, 101, 119]⟩ : ByteArray) :: L).take m = L2 := ⟨_, rfl⟩
            have hL20 : L2.getD 0 ByteArray.empty = ⟨#[110, 101, 119]⟩ := by
              rw [← hL2]
              obtain ⟨m', rfl⟩ : ∃ m', m = m' + 1 := ⟨m - 1, by omega⟩
              rfl
            have hL2l : L2.length ≤ m := by rw [← hL2, List.length_take]; omega
            have hL2p : 0 < L2.length := by rw [← hL2, List.length_take, List.length_cons]; omega
            rw [hL2] at hck
            have CK := Lib.hid hck
            clear hck hR13 hL2 ho13 hbel
            go_wp2_with fail
            refine CK.out.mono ?_
            rintro e w14 ⟨rfl, hR14, ho14⟩
            have hbel14 : Below w.heap.size w w14 := hbel13.trans (ho14.below hbel13.size (fun k hk => by subst hk; exact hs01))
            have cz := hR14.yank hL2p 1
            rw [turn_yank _ _ hL2p hL2p] at cz
            have CZ := Lib.hid cz
            have HL20 := Lib.hid hL20
            clear cz hR14 ho14 hL20 hbel13
            go_wp2_with fail
            refine CZ.out.mono ?_
            rintro e w15 ⟨rfl, hR15, ho15⟩
            rw [HL20.out]
            have hbel15 : Below w.heap.size w w15 := hbel14.trans (ho15.below hbel14.size (fun k hk => by subst hk; exact hs01))
            clear ho15 hbel14
            go_wp2_with fail
            refine hR15.all.mono ?_
            rintro e w16 ⟨v16, rfl, hown16, hb16⟩
            obtain ⟨g, c16, rfl, hcx, hzx, hcp⟩ := hown16.first hL2p
            rw [HL20.out] at hcx
            have l0 : (0 : Int) < L2.length := by omega
            have hR16 := hR15.up hb16
            have HOW := Lib.hid hown16
            clear hown16 hzx hR15
            go_wp2_with fail
            refine hR16.all.mono ?_
            rintro e w17 ⟨v17, rfl, hown17, hb17⟩
            obtain ⟨A17, c17, rfl, hD1, hD2, hD3⟩ := hown17.shape eltS
            clear hcx hown17 hD3
            go_wp2_with fail
            refine (HPK.out w17).mono ?_
            rintro e w' ⟨rfl, rfl⟩
            go_wp2_with fail
            rw [E1.out]
            go_ret
            exact ⟨ret_bool (decide_eq_true (by omega)), up2 (up2 hbel15 hb16) hb17⟩
end
end Go.Proofs.YtmnmloebomlllaaDoor
