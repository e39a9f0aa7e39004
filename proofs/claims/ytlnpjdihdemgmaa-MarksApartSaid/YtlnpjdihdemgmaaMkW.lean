/- copyistlaw16.MarksApart returns true. -/
import Derived.Test.YtlnpjdihdemgmaaMkV
namespace Go.Proofs.Ytlnpjdihdemgmaa
open Go.RowKit
set_option linter.unusedVariables false

theorem actAt_new (w : World) (a : Act6) : ActAt (w.alloc (.cells #[.int .i64 a.kind, .int .i64 a.id, .int .i64 a.at_, .int .i64 a.to, .int .i64 a.n, .bool a.on] 32)) w.heap.size 0 a := by
  have h1 := MapKept.heap_alloc w (.cells #[.int .i64 a.kind, .int .i64 a.id, .int .i64 a.at_, .int .i64 a.to, .int .i64 a.n, .bool a.on] 32)
  refine ⟨?_, ?_, ?_, ?_, ?_, ?_⟩ <;> (simp only [World.cell?, h1.1]; rfl)

set_option maxRecDepth 100000 in
set_option maxHeartbeats 8000000 in
theorem apart_true (A : Option Addr) (cap : Nat) (l : List Act6) (a : Act6) (w : World) (hA : ASl w A l) (hlm : l.length ≤ 9223372036854775807) :
    Calls Try.prog 10 #[.slice A l.length cap, actV a] w fun e w' => e = .returned (.bool true) ∧ Below w.heap.size w w' := by
  have hB0 := below1 w (.cells #[.int .i64 a.kind, .int .i64 a.id, .int .i64 a.at_, .int .i64 a.to, .int .i64 a.n, .bool a.on] 32)
  have hact0 := actAt_new w a
  have hz0 : (w.alloc (.cells #[.int .i64 a.kind, .int .i64 a.id, .int .i64 a.at_, .int .i64 a.to, .int .i64 a.n, .bool a.on] 32)).heap.size = w.heap.size + 1 := by simp
  have HZ0 := Lib.hid hz0
  clear hz0
  by_cases hl : l.length ≤ 60
  · have hl' : (l.length : Int) ≤ 60 := by omega
    go_enter Try.func10, Try.ntmps10
    go_wp2_with fail
    refine (lives_true _).mono ?_
    rintro e w1 ⟨rfl, hB1⟩
    have hact1 := hact0.kept (hB1.block w.heap.size (by rw [HZ0.out]; omega))
    have hbw1 := up2 hB0 hB1
    have hs1 : w.heap.size + 1 ≤ w1.heap.size := by have := hB1.size; rw [HZ0.out] at this; exact this
    clear hB0 hB1 hact0 HZ0
    obtain ⟨k0, k1, k2, k3, k4, k5⟩ := id hact1
    simp only [Nat.zero_add] at k1 k2 k3 k4 k5
    go_wp2_with fail
    refine (do_nil a _).mono ?_
    rintro e w2 ⟨rfl, hb2⟩
    have hact2 := hact1.kept (hb2.block w.heap.size (by omega))
    have hbw2 := up2 hbw1 hb2
    have hs2 := hb2.size
    clear k0 k1 k2 k3 k4 k5 hact1 hbw1 hb2
    obtain ⟨k0, k1, k2, k3, k4, k5⟩ := id hact2
    simp only [Nat.zero_add] at k1 k2 k3 k4 k5
    go_wp2_with fail
    refine (at_nil _ _).mono ?_
    rintro e w' ⟨rfl, rfl⟩
    go_wp2_with fail
    refine (advance_nil _ _).mono ?_
    rintro e w' ⟨rfl, rfl⟩
    go_wp2_with fail
    refine (all_nil _).mono ?_
    rintro e w' ⟨rfl, rfl⟩
    go_wp2_with fail
    refine (in_nil _ _ _).mono ?_
    rintro e w3 ⟨rfl, hb3⟩
    have hact3 := hact2.kept (hb3.block w.heap.size (by omega))
    have hbw3 := up2 hbw2 hb3
    have hs3 := hb3.size
    clear k0 k1 k2 k3 k4 k5 hact2 hbw2 hb3
    go_wp2_with fail
    refine (many_nil _).mono ?_
    rintro e w' ⟨rfl, rfl⟩
    go_wp2_with fail
    refine (copy_nil _).mono ?_
    rintro e w' ⟨rfl, rfl⟩
    go_wp2_with fail
    refine (new_any _).mono ?_
    rintro e w4 ⟨rfl, h4, hB4, hz4⟩
    have hact4 := hact3.kept (hB4.block w.heap.size (by omega))
    have hbw4 := up2 hbw3 hB4
    have hlt3 : w.heap.size < w3.heap.size := by omega
    clear hB4 hact3 hbw3 hz4 hs1 hs2 hs3
    go_wp2_with fail
    go_loopw [13] (fun vi wz => ∃ (j : Nat) (m : List (Int × Mk)) (n : Int), j ≤ l.length ∧ vi = .int .i64 j ∧ DoInv m n j ∧ MarksAt wz (w3.heap.size + 1) w3.heap.size m n ∧ Below w.heap.size w wz ∧ ActAt wz w.heap.size 0 a) (fun vi _ => l.length - (intOf vi).toNat)
    case atStart => exact ⟨0, [], 0, by omega, rfl, DoInv.start, h4, hbw4, hact4⟩
    case round =>
      clear h4 hbw4 hact4
      obtain ⟨j, m, n, hj, rfl, hi, hm, hbw, hact⟩ := hrel
      have hn0 := hi.n0
      have hn1 := hi.n1
      have hml := hi.len
      have hlm1 := hm.lt
      have hlm2 := hm.im.lt
      by_cases hlt : j < l.length
      · obtain ⟨bs, off, act, rfl, hact', k0, k1, k2, k3, k4, k5⟩ := hA.at_ hlt hbw
        have hst := hi.step hm.ids act
        have hlt' : (j : Int) < l.length := by omega
        clear hact'
        go_wp2_with fail
        refine (do_any hm act hn0 (by omega)).mono ?_
        rintro e w5 ⟨rfl, h5, ho5⟩
        go_wp2_with fail
        exact ⟨⟨j + 1, _, _, by omega, by go_num, hst, h5, Only.fin hbw ho5 (by omega) (by omega), hact.kept (ho5.block w.heap.size (by omega) (fun hs => by rcases hs with hs | hs <;> omega))⟩, by simp [intOf]; omega⟩
      · have hjl : j = l.length := by omega
        subst hjl
        clear hlt
        have hst := hi.step hm.ids a
        have sn0 := hst.n0
        have sn1 := hst.n1
        have sml := hst.len
        go_wp2_with fail
        refine (copy_any hm).mono ?_
        rintro e w5 ⟨b', bm', rfl, h5, hb5a, hb5b, hb5⟩
        have hm5 := hm.up hb5
        have hbw5 := up2 hbw hb5
        have hact5 := hact.kept (hb5.block w.heap.size (by omega))
        have hs5 := hb5.size
        have l5a := h5.lt
        have l5b := h5.im.lt
        clear hm hbw hact hb5
        go_wp2_with fail
        refine (all_any hm5 hi.asc (by omega) (by omega)).mono ?_
        rintro e w6 ⟨v6, rfl, hown6, hb6⟩
        have hm6 := hm5.up hb6
        have h6 := h5.up hb6
        have hbw6 := up2 hbw5 hb6
        have hact6 := hact5.kept (hb6.block w.heap.size (by omega))
        have hs6 := hb6.size
        clear hm5 h5 hbw5 hact5 hb6
        obtain ⟨k0, k1, k2, k3, k4, k5⟩ := id hact6
        simp only [Nat.zero_add] at k1 k2 k3 k4 k5
        go_wp2_with fail
        refine (do_any h6 a hn0 (by omega)).mono ?_
        rintro e w7 ⟨rfl, h7, ho7⟩
        have hm7 : MarksAt w7 (w3.heap.size + 1) w3.heap.size m n := hm6.kept (ho7.block _ hm6.lt (fun hs => by rcases hs with hs | hs <;> omega)) (ho7.block _ hm6.im.lt (fun hs => by rcases hs with hs | hs <;> omega))
        have hown7 : ROwn encK 47 3 w5.heap.size w7 v6 m := hown6.kept fun g hg => ho7.block g (hown6.lt hg) (fun hs => by have := hown6.base hg; rcases hs with rfl | rfl <;> omega)
        have hbw7 := Only.fin hbw6 ho7 (by omega) (by omega)
        have hact7 := hact6.kept (ho7.block w.heap.size (by omega) (fun hs => by rcases hs with hs | hs <;> omega))
        have hs7 := ho7.size
        clear k0 k1 k2 k3 k4 k5 hm6 h6 hown6 hbw6 hact6 ho7
        go_wp2_with fail
        refine (all_any hm7 hi.asc (by omega) (by omega)).mono ?_
        rintro e w8 ⟨v8, rfl, hown8, hb8⟩
        have hown78 := hown7.up hb8
        obtain ⟨A5, cp5, rfl, hA51, hA52, hAs5⟩ := hown78.shape eltK
        obtain ⟨A7, cp7, rfl, hA71, hA72, hAs7⟩ := hown8.shape eltK
        have hs8 := hb8.size
        go_wp2_with fail
        refine (sameK_true cp7 cp5 hAs7 hAs5 (by omega)).mono ?_
        rintro e w9 ⟨rfl, hb9⟩
        have hm9 := (hm7.up hb8).up hb9
        have h9 := (h7.up hb8).up hb9
        have hbw9 := up2 (up2 hbw7 hb8) hb9
        have hact9 := (hact7.kept (hb8.block w.heap.size (by omega))).kept (hb9.block w.heap.size (by omega))
        have hs9 := hb9.size
        clear hm7 h7 hown7 hown8 hown78 hbw7 hact7 hb8 hb9 hA51 hA52 hAs5 hA71 hA72 hAs7
        obtain ⟨k0, k1, k2, k3, k4, k5⟩ := id hact9
        simp only [Nat.zero_add] at k1 k2 k3 k4 k5
        go_wp2_with fail
        refine (do_any hm9 a hn0 (by omega)).mono ?_
        rintro e w10 ⟨rfl, h10, ho10⟩
        have h10' := h9.kept (ho10.block b' h9.lt (fun hs => by rcases hs with hs | hs <;> omega)) (ho10.block bm' h9.im.lt (fun hs => by rcases hs with hs | hs <;> omega))
        have hbw10 := Only.fin hbw9 ho10 (by omega) (by omega)
        clear k0 k1 k2 k3 k4 k5 hm9 h9 hbw9 hact9 ho10
        generalize doR m n a = r at *
        obtain ⟨rm, rn, rret, rerr⟩ := r
        dsimp only at *
        go_wp2_with fail
        refine (all_any h10 hst.asc (by omega) (by omega)).mono ?_
        rintro e w11 ⟨v11, rfl, hown11, hb11⟩
        have h11 := h10'.up hb11
        have hbw11 := up2 hbw10 hb11
        clear h10 h10' hbw10 hb11
        go_wp2_with fail
        refine (all_any h11 hst.asc (by omega) (by omega)).mono ?_
        rintro e w12 ⟨v12, rfl, hown12, hb12⟩
        have hown112 := hown11.up hb12
        obtain ⟨A5, cp5, rfl, hA51, hA52, hAs5⟩ := hown112.shape eltK
        obtain ⟨A7, cp7, rfl, hA71, hA72, hAs7⟩ := hown12.shape eltK
        go_wp2_with fail
        refine (sameK_true cp5 cp7 hAs5 hAs7 (by omega)).mono ?_
        rintro e w13 ⟨rfl, hb13⟩
        go_wp2_with fail
        go_ret
        exact ⟨rfl, up2 (up2 hbw11 hb12) hb13⟩
  · have hl' : (60 : Int) < l.length := by omega
    go_enter Try.func10, Try.ntmps10
    go_wp2_with fail
    refine (lives_true _).mono ?_
    rintro e w1 ⟨rfl, hB1⟩
    go_wp2_with fail
    go_ret
    exact ⟨rfl, up2 hB0 hB1⟩
end Go.Proofs.Ytlnpjdihdemgmaa
