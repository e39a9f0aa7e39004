/- copyistlaw16.MarksScript returns true. -/
import Derived.Test.YtlnpjdihdemgmaaMkT
import Derived.Test.YtlnpjdihdemgmaaMkV
import Derived.Test.YtlnpjdihdemgmaaMrH
namespace Go.Proofs.Ytlnpjdihdemgmaa
open Go.RowKit
set_option linter.unusedVariables false

def atV (m : List (Int × Mk)) (id : Int) : Int := match lookM m id with | some x => x.1 | none => 0
def adV (m : List (Int × Mk)) (id : Int) : Bool := match lookM m id with | some x => x.2 | none => false
def isV (m : List (Int × Mk)) (id : Int) : Bool := match lookM m id with | some _ => true | none => false
section
variable {b bm bo B : Nat} {v : Value} {m : List (Int × Mk)} {n : Int} {w : World}
theorem at_any (h : MarksAt w b bm m n) (id : Int) : Calls Try.prog 17 #[.pointer (some ⟨b, 0, none⟩), .int .i64 id] w fun e w' => e = .returned (.tuple #[.int .i64 (atV m id), .bool (isV m id)]) ∧ Below w.heap.size w w' := by
  unfold atV isV
  cases hx : lookM m id with
  | none => exact at_no h hx
  | some x => exact at_yes h hx
theorem advance_any (h : MarksAt w b bm m n) (id : Int) : Calls Try.prog 28 #[.pointer (some ⟨b, 0, none⟩), .int .i64 id] w fun e w' => e = .returned (.tuple #[.bool (adV m id), .bool (isV m id)]) ∧ Below w.heap.size w w' := by
  unfold adV isV
  cases hx : lookM m id with
  | none => exact advance_no h hx
  | some x => exact advance_yes h hx
theorem rat_any (h : RefAt B w bo v m n) (hn : (m.map (·.1)).Nodup) (id : Int) (hl : m.length ≤ 1000000) : Calls Try.prog 27 #[.pointer (some ⟨bo, 0, none⟩), .int .i64 id] w fun e w' => e = .returned (.tuple #[.int .i64 (atV m id), .bool (isV m id)]) ∧ w = w' := by
  unfold atV isV
  cases hx : lookM m id with
  | none => exact rat_no h hx hl
  | some x => exact rat_yes h hn hx hl
theorem radvance_any (h : RefAt B w bo v m n) (hn : (m.map (·.1)).Nodup) (id : Int) (hl : m.length ≤ 1000000) : Calls Try.prog 29 #[.pointer (some ⟨bo, 0, none⟩), .int .i64 id] w fun e w' => e = .returned (.tuple #[.bool (adV m id), .bool (isV m id)]) ∧ w = w' := by
  unfold adV isV
  cases hx : lookM m id with
  | none => exact radvance_no h hx hl
  | some x => exact radvance_yes h hn hx hl
end

set_option maxRecDepth 100000 in
set_option maxHeartbeats 16000000 in
theorem script_true (A : Option Addr) (cap : Nat) (l : List Act6) (from_ to : Int) (w : World) (hA : ASl w A l) (hlm : l.length ≤ 9223372036854775807) :
    Calls Try.prog 9 #[.slice A l.length cap, .int .i64 from_, .int .i64 to] w fun e w' => e = .returned (.bool true) ∧ Below w.heap.size w w' := by
  by_cases hl : l.length ≤ 60
  · have hl' : (l.length : Int) ≤ 60 := by omega
    go_enter Try.func9, Try.ntmps9
    go_wp2_with fail
    refine (lives_true w).mono ?_
    rintro e w1 ⟨rfl, hB1⟩
    go_wp2_with fail
    refine (new_any w1).mono ?_
    rintro e w2 ⟨rfl, h2, hB2, hz2⟩
    have hz2' : w1.heap.size + 2 ≤ w2.heap.size := by omega
    clear hz2
    go_wp2_with fail
    refine (rnew_any w2).mono ?_
    rintro e w3 ⟨rfl, h3, hB3⟩
    have h2' := h2.up hB3
    have hBw := up2 (up2 hB1 hB2) hB3
    have hle := hB1.size
    clear hB1 hB2 h2 hB3
    go_wp2_with fail
    go_loopw [9] (fun vi wz => ∃ (j : Nat) (m : List (Int × Mk)) (n : Int) (v : Value), j ≤ l.length ∧ vi = .int .i64 j ∧ DoInv m n j ∧ MarksAt wz (w1.heap.size + 1) w1.heap.size m n ∧ RefAt (w2.heap.size + 1) wz w2.heap.size v m n ∧ Below w.heap.size w wz) (fun vi _ => l.length - (intOf vi).toNat)
    case atStart => exact ⟨0, [], 0, _, by omega, rfl, DoInv.start, h2', h3, hBw⟩
    case round =>
      clear h2' hBw h3
      obtain ⟨j, m, n, v, hj, rfl, hi, hm, hr, hbw⟩ := hrel
      have hn0 := hi.n0
      have hn1 := hi.n1
      have hml := hi.len
      by_cases hlt : j < l.length
      · obtain ⟨bs, off, act, rfl, hact, hAct⟩ := hA.at_ hlt hbw
        have hst := hi.step hm.ids act
        have sn0 := hst.n0
        have sn1 := hst.n1
        have sml := hst.len
        have hlt' : (j : Int) < l.length := by omega
        have hbsl : bs < wr.heap.size := lt_of_cell hAct.1
        have hbs : bs < w.heap.size := by
          obtain ⟨b1, o1, e1, hl1, _⟩ := hA (by omega)
          cases e1; exact hl1
        have hlm1 := hm.lt
        have hlm2 := hm.im.lt
        have hrl := hr.lt
        clear hact
        obtain ⟨k0, k1, k2, k3, k4, k5⟩ := id hAct
        go_wp2_with fail
        refine (do_any hm act hn0 (by omega)).mono ?_
        rintro e w5 ⟨rfl, h5, ho5⟩
        have hAct5 := hAct.kept (ho5.block bs (by omega) (fun hs => by rcases hs with hs | hs <;> omega))
        have hbw5 := Only.fin hbw ho5 (by omega) (by omega)
        have hr5 := hr.kept ho5.size (ho5.block _ hrl (fun hs => by rcases hs with hs | hs <;> omega)) (fun g hg => ho5.block g (hr.own.lt hg) (fun hs => by have := hr.own.base hg; rcases hs with rfl | rfl <;> omega))
        have hnd := hm.im.nodup
        have hats := hm.ats
        have HND := Lib.hid hnd
        have HATS := Lib.hid hats
        have hs5 := ho5.size
        have hdoes := does_any hr5 HND.out HATS.out act hn0 (by omega) (by omega)
        clear k0 k1 k2 k3 k4 k5 hAct hm hbw hr ho5 hnd hats HND HATS
        generalize doR m n act = r at *
        obtain ⟨rm, rn, rret, rerr⟩ := r
        dsimp only at *
        have HDo := Lib.hid hdoes
        have HSt := Lib.hid hst
        clear hdoes hst
        obtain ⟨k0, k1, k2, k3, k4, k5⟩ := id hAct5
        go_wp2_with fail
        refine HDo.out.mono ?_
        rintro e w6 ⟨rfl, v6, hr6, ho6⟩
        have hAct6 := hAct5.kept (ho6.block bs (by omega) (fun hs => by rcases hs with hs | hs <;> omega))
        have hm6 := h5.kept (ho6.block _ h5.lt (fun hs => by rcases hs with hs | hs <;> omega)) (ho6.block _ h5.im.lt (fun hs => by rcases hs with hs | hs <;> omega))
        have hbw6 : Below w.heap.size w w6 := hbw5.trans (ho6.below (by omega) (fun k hk => by rcases hk with hk | hk <;> omega))
        clear k0 k1 k2 k3 k4 k5 hAct5 h5 hbw5 hr5 ho6
        have HND6 := Lib.hid hm6.im.nodup
        clear HDo
        dsimp only at *
        obtain ⟨k0, k1, k2, k3, k4, k5⟩ := id hAct6
        obtain ⟨AR, cr, rfl, hR1, hR2, _⟩ := hr6.own.shape eltK
        go_wp2_with fail
        refine (at_any hm6 _).mono ?_
        rintro e w7 ⟨rfl, hb7⟩
        have hm7 := hm6.up hb7
        have hr7 := hr6.up hb7
        have hbw7 := up2 hbw6 hb7
        have hAct7 := hAct6.kept (hb7.block bs (by have := hbw6.size; omega))
        clear k0 k1 k2 k3 k4 k5 hAct6 hm6 hr6 hbw6 hb7
        obtain ⟨k0, k1, k2, k3, k4, k5⟩ := id hAct7
        go_wp2_with fail
        refine (rat_any hr7 HND6.out _ (by omega)).mono ?_
        rintro e w' ⟨rfl, rfl⟩
        go_wp2_with fail
        refine (advance_any hm7 _).mono ?_
        rintro e w8 ⟨rfl, hb8⟩
        have hm8 := hm7.up hb8
        have hr8 := hr7.up hb8
        have hbw8 := up2 hbw7 hb8
        have hAct8 := hAct7.kept (hb8.block bs (by have := hbw7.size; omega))
        clear k0 k1 k2 k3 k4 k5 hAct7 hm7 hr7 hbw7 hb8
        obtain ⟨k0, k1, k2, k3, k4, k5⟩ := id hAct8
        go_wp2_with fail
        refine (radvance_any hr8 HND6.out _ (by omega)).mono ?_
        rintro e w' ⟨rfl, rfl⟩
        clear k0 k1 k2 k3 k4 k5 hAct8
        go_wp2_with fail
        generalize atV rm act.id = va at *
        generalize adV rm act.id = vb at *
        generalize isV rm act.id = vc at *
        have hm9 : MarksAt w8.drew (w1.heap.size + 1) w1.heap.size rm rn := hm8.kept rfl rfl
        have hr9 := hr8.drew
        have hb9 : Below w8.heap.size w8 w8.drew := (Below.refl _ _).drew
        have C0 : ∀ x : UpW w8.heap.size w8, x.w.cell? ⟨w2.heap.size, 0, none⟩ = some (.slice AR rm.length cr) := fun x => (x.up.cell (p := ⟨w2.heap.size, 0, none⟩) hr8.lt).trans hr8.c0
        clear hm8 hr8
        refine wp_region_mix w8.heap.size 58 [([0, 1, 2, 3, 4, 5, 6, 7, 8, 9, 10, 11, 12, 13, 14, 15, 16, 17, 18, 19, 20, 21, 22, 23, 24, 25, 26, 27, 28, 29, 31], 30), ([], 32), ([], 33), ([34, 35, 36, 37, 39, 40, 41, 42, 43], 38), ([44, 45, 46, 47, 48, 49, 51, 52, 53], 50), ([], 54), ([], 55)] [56, 57] (by kernel_rfl) (fun c d v a w h => by cases d <;> exact h) (by kernel_rfl) ?_
        simp only [wpMix, pk_nil, pk_cons, pushAt_zero, pushAt_succ, List.drop_succ_cons, List.drop_zero]
        repeat (go_big_quiet_step (fail))
        refine wpQuiet_nil ?_
        go_wp2_with fail
        refine (all_any hm9 HSt.out.asc (by omega) (by omega)).mono ?_
        rintro e wA ⟨vA, rfl, hownA, hbA⟩
        have hmA := hm9.up hbA
        have hrA := hr9.up hbA
        have hbwA := up2 hb9 hbA
        clear hm9 hr9 hb9 hbA
        go_wp2_with fail
        refine thenQ_normal ⟨⟨⟨_, hbwA⟩, rfl⟩, ?_⟩
        refine wpQuiet_nil ?_
        go_wp2_with fail
        refine (rall_any hrA (by omega)).mono ?_
        rintro e wB ⟨vB, rfl, hownB, hbB⟩
        have hmB := hmA.up hbB
        have hrB := hrA.up hbB
        have hbwB := up2 hbwA hbB
        have hownAB := hownA.up hbB
        obtain ⟨A1, cp1, rfl, _, _, hs1⟩ := hownAB.shape eltK
        obtain ⟨A2, cp2, rfl, _, _, hs2⟩ := hownB.shape eltK
        clear hmA hrA hbwA hbB hownA hownB hownAB
        go_wp2_with fail
        refine thenQ_normal ⟨⟨⟨_, hbwB⟩, rfl⟩, ?_⟩
        refine wpQuiet_nil ?_
        go_wp2_with fail
        refine (sameK_true cp1 cp2 hs1 hs2 (by omega)).mono ?_
        rintro e wC ⟨rfl, hbC⟩
        have hmC := hmB.up hbC
        have hrC := hrB.up hbC
        have hbwC := up2 hbwB hbC
        clear hmB hrB hbwB hbC hs1 hs2
        go_wp2_with fail
        refine thenQ_normal ⟨⟨⟨_, hbwC⟩, rfl⟩, ?_⟩
        repeat (go_big_quiet_step (fail))
        refine wpQuiet_nil ?_
        go_wp2_with fail
        refine (many_any hmC).mono ?_
        rintro e w' ⟨rfl, rfl⟩
        go_wp2_with fail
        refine thenQ_normal ⟨⟨⟨_, hbwC⟩, rfl⟩, ?_⟩
        repeat (go_big_quiet_step (fail))
        refine wpQuiet_nil ?_
        go_wp2_with fail
        refine (in_any hmC from_ to (by omega)).mono ?_
        rintro e wD ⟨vD, ls, rfl, hndD, hmemD, hpwD, hownD, hbD⟩
        have hrD := hrC.up hbD
        have hmD := hmC.up hbD
        have hbwD := up2 hbwC hbD
        have HmemD := Lib.hid hmemD
        have HpwD := Lib.hid hpwD
        clear hmC hrC hbwC hbD hmemD hpwD
        go_wp2_with fail
        refine thenQ_normal ⟨⟨⟨_, hbwD⟩, rfl⟩, ?_⟩
        refine wpQuiet_nil ?_
        go_wp2_with fail
        refine (rin_any hrD HSt.out.asc from_ to (by omega)).mono ?_
        rintro e wE ⟨vE, lr, rfl, hinE, hownE, hbE⟩
        have hls : ls = lr.map (·.1) := hinE.is_in HND6.out HmemD.out HpwD.out
        have hlrl := hinE.len
        have hmE := hmD.up hbE
        have hrE := hrD.up hbE
        have hbwE := up2 hbwD hbE
        have hownDE := hownD.up hbE
        rw [hls] at hownDE
        have hxl : (lr.map (·.1)).length ≤ rm.length := by rw [List.length_map]; exact hlrl
        clear hls hlrl hinE
        generalize lr.map (·.1) = xs at hownDE hownE hxl
        obtain ⟨A1, cp1, rfl, _, _, hs1⟩ := hownDE.shape eltI
        obtain ⟨A2, cp2, rfl, _, _, hs2⟩ := hownE.shape eltI
        clear hmD hrD hbwD hbE hownD hownE hownDE HmemD HpwD
        go_wp2_with fail
        refine thenQ_normal ⟨⟨⟨_, hbwE⟩, rfl⟩, ?_⟩
        refine wpQuiet_nil ?_
        go_wp2_with fail
        refine (sameI_true cp1 cp2 hs1 hs2 (by omega)).mono ?_
        rintro e wF ⟨rfl, hbF⟩
        have hmF := hmE.up hbF
        have hrF := hrE.up hbF
        have hbwF := up2 hbwE hbF
        clear hmE hrE hbwE hbF hs1 hs2
        go_wp2_with fail
        refine thenQ_normal ⟨⟨⟨_, hbwF⟩, rfl⟩, ?_⟩
        repeat (go_big_quiet_step (fail))
        refine wpQuiet_nil ?_
        clear C0
        go_wp2_with fail
        go_roundw
        case rel => exact ⟨j + 1, rm, rn, _, by omega, by go_num, HSt.out, hmF, hrF, up2 hbw8 hbwF⟩
        case measure => simp [intOf]; omega
      · have hjl : j = l.length := by omega
        subst hjl
        clear hlt
        have HAsc := Lib.hid hi.asc
        go_wp2_with fail
        refine (copy_any hm).mono ?_
        rintro e w5 ⟨b', bm', rfl, h5, hb5a, hb5b, hb5⟩
        have hr5 := hr.up hb5
        have hbw5 := up2 hbw hb5
        clear hm hr hbw hb5
        go_wp2_with fail
        refine (all_any h5 HAsc.out (by omega) (by omega)).mono ?_
        rintro e w6 ⟨v6, rfl, hown6, hb6⟩
        have hr6 := hr5.up hb6
        have hbw6 := up2 hbw5 hb6
        clear h5 hr5 hbw5 hb6
        go_wp2_with fail
        refine (rall_any hr6 (by omega)).mono ?_
        rintro e w7 ⟨v7, rfl, hown7, hb7⟩
        have hown67 := hown6.up hb7
        obtain ⟨A1, cp1, rfl, _, _, hs1⟩ := hown67.shape eltK
        obtain ⟨A2, cp2, rfl, _, _, hs2⟩ := hown7.shape eltK
        go_wp2_with fail
        refine (sameK_true cp1 cp2 hs1 hs2 (by omega)).mono ?_
        rintro e w8 ⟨rfl, hb8⟩
        go_wp2_with fail
        go_ret
        exact ⟨rfl, up2 (up2 hbw6 hb7) hb8⟩
  · have hl' : (60 : Int) < l.length := by omega
    go_enter Try.func9, Try.ntmps9
    go_wp2_with fail
    refine (lives_true w).mono ?_
    rintro e w1 ⟨rfl, hB1⟩
    go_wp2_with fail
    go_ret
    exact ⟨rfl, hB1⟩
end Go.Proofs.Ytlnpjdihdemgmaa
