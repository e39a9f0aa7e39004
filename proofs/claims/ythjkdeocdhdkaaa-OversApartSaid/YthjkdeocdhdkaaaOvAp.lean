/- copyistlaw18.OversApart returns true. -/
import Derived.Test.YthjkdeocdhdkaaaOvCp
import Derived.Test.YthjkdeocdhdkaaaOvNv
import Derived.Test.YthjkdeocdhdkaaaOvInA
import Derived.Test.YthjkdeocdhdkaaaWin
namespace Go.Proofs.Ythjkdeocdhdkaaa
open Go.RowKit
set_option linter.unusedVariables false
set_option linter.unusedSimpArgs false
section
variable {D : List OverD} {w w' w0 : World} {nx pr ev : Int} {b : Nat} {S : Nat → Prop}
theorem asc_len : ∀ (l : List Int) (lo nx : Int), l.Pairwise (· < ·) → (∀ z ∈ l, lo ≤ z ∧ z < nx) → lo ≤ nx → (l.length : Int) ≤ nx - lo
  | [], lo, nx, _, _, h => by simp; omega
  | z :: l, lo, nx, hp, hb, h => by
    obtain ⟨h1, h2⟩ := List.pairwise_cons.1 hp
    obtain ⟨h3, h4⟩ := hb z (by simp)
    have := asc_len l (z + 1) nx h2 (fun y hy => ⟨by have := h1 y hy; omega, (hb y (by simp [hy])).2⟩) (by omega)
    simp only [List.length_cons]
    omega
theorem wf_len (h : WfD D nx) : (D.length : Int) ≤ nx := by
  have := asc_len (D.map OverD.id) 0 nx h.asc (fun z hz => by
    obtain ⟨x, hx, rfl⟩ := List.mem_map.1 hz
    exact ⟨(h.good x hx).id0, (h.good x hx).id1⟩) h.nx0
  simpa using this
theorem ids_len (h : WfD D nx) (ev : Int) (a : Act18) : (doR ev D nx a).ids.length ≤ 1024 := by
  have hl := h.len
  unfold doR
  repeat' split
  all_goals (try simp)
  unfold delI goneI
  split
  · rw [List.length_map]
    exact Nat.le_trans (List.length_filter_le _ _) hl
  · simp
def manyOf (w : World) (b : Nat) : Nat := match w.cell? ⟨b, 2, none⟩ with | some (.slice _ n _) => n | _ => 0
theorem OSt.many (h : OSt w b pr ev D nx S) : manyOf w b = D.length := by
  obtain ⟨v, L, h1, rfl, _⟩ := h
  obtain ⟨A, c, rfl, _, _, _⟩ := h1.own.shape eltT
  unfold manyOf
  rw [h1.cell 2 _ rfl, List.length_map]
theorem add_more (h : D.length < 1024) : addR D nx 1 2 = nx ∧ addE D 1 2 = 0 ∧ addD D nx 1 2 false false = D ++ [newD nx 1 2 false false] ∧ addN D nx 1 2 = nx + 1 := by
  have he : addE D 1 2 = 0 := by unfold addE; rw [show rightI 1 2 = true by decide]; simp [h]
  exact ⟨by unfold addR; rw [he]; rfl, he, by unfold addD; rw [he]; rfl, by unfold addN; rw [he]; rfl⟩
theorem add_full (h : ¬ D.length < 1024) : addR D nx 1 2 = 0 ∧ addE D 1 2 = 7 ∧ addD D nx 1 2 false false = D ∧ addN D nx 1 2 = nx := by
  have he : addE D 1 2 = 7 := by unfold addE; rw [show rightI 1 2 = true by decide]; simp [h]
  exact ⟨by unfold addR; rw [he]; rfl, he, by unfold addD; rw [he]; rfl, by unfold addN; rw [he]; rfl⟩
/-- The set while it is filled. -/
structure FillSt (w0 w : World) (b : Nat) (D : List OverD) (nx : Int) : Prop where
  wf : WfD D nx
  n1 : nx ≤ 61 + D.length
  one : D.length ≤ 61 ∨ ∃ x ∈ D, covB 1 x = true
  st : OSt w b 1 2 D nx (fun k => w0.heap.size ≤ k)
  bel : Below w0.heap.size w0 w
theorem at_one (hw : WfD D nx) {x : OverD} (hx : x ∈ D) (hc : covB 1 x = true) : 1 ≤ (atI 1 D 1).length := by
  have := (atI_mem (pr := 1) hw (p := 1) hx).2 hc
  exact List.length_pos_of_mem this
end
def msk9 : List Msk := [(0, 36028797018963968, 128), (1, 72057594037927936, 36028797018963968), (2, 144115188075855872, 72057594037927936), (4, 288230376151711744, 144115188075856896), (12, 576460752303423488, 432345564227567616), (20, 1152921504606846976, 576460752303423488), (32, 2305843009213693952, 1152921504606855168), (96, 4611686018427387904, 3458764513820540928), (160, 9223372036854775808, 4611686018427387904), (256, 18446744073709551616, 9223372036854775840), (768, 36893488147419103232, 27670116110564327424), (1280, 73786976294838206464, 46116860184273879040), (2304, 147573952589676412928, 83010348331692982272), (4352, 295147905179352825856, 156797324626531188736), (9216, 590295810358705651712, 295147905179352825856), (16384, 1180591620717411303424, 590295810358705651744), (49152, 2361183241434822606848, 1770887431076116955136), (81920, 4722366482869645213696, 2951479051793528258560), (147456, 9444732965739290427392, 5312662293228350865408), (278528, 18889465931478580854784, 10035028776097996079104), (589824, 37778931862957161709568, 18889465931478580854784), (1048576, 75557863725914323419136, 37778931862957161709600), (3145728, 151115727451828646838272, 113336795588871485128704), (5242880, 302231454903657293676544, 188894659314785808547840), (9437184, 604462909807314587353088, 340010386766614455386112), (17825792, 1208925819614629174706176, 642241841670271749062656), (37748736, 2417851639229258349412352, 1208925819614629174706176), (67108864, 4835703278458516698824704, 2417851639229258349412384), (201326592, 9671406556917033397649408, 7253554917687775048237056), (335544320, 19342813113834066795298816, 12089258196146291747061760), (603979776, 38685626227668133590597632, 21760664753063325144711168), (1342177280, 77371252455336267181195264, 38685626227668133590597632), (2147483648, 154742504910672534362390528, 77371252455336267181195296), (2147483648, 309485009821345068724781056, 77371252455336267181195272), (10737418240, 618970019642690137449562112, 386856262276681335905976320), (23622320128, 1237940039285380274899124224, 851083777008698938993147904), (2147483648, 2475880078570760549798248448, 77371252455336267181195272), (70866960384, 4951760157141521099596496896, 2553251331026096816979443712), (173946175488, 9903520314283042199192993792, 6267071448882237641676816384), (277025390592, 19807040628566084398385987584, 9980891566738378466374189056), (584115552256, 39614081257132168796771975168, 19807040628566084398385987584), (1099511627776, 79228162514264337593543950336, 39614081257132168796771975200), (3298534883328, 158456325028528675187087900672, 118842243771396506390315925504), (5497558138880, 316912650057057350374175801344, 198070406285660843983859875840), (9895604649984, 633825300114114700748351602688, 356526731314189519170947776512)]
set_option maxRecDepth 100000 in
set_option maxHeartbeats 4000000 in
theorem apart18_some (A : Option Addr) (cap : Nat) (l : List Act18) (a : Act18) (w : World) (hl : l.length ≤ 60) (hA : RSl encA w A l) :
    Calls Try.prog 9 #[.slice A l.length cap, actV a] w fun e w' => e = .returned (.bool true) ∧ Below w.heap.size w w' := by
  have HA := Lib.hid hA
  clear hA
  have hl' : (l.length : Int) ≤ 60 := by omega
  obtain ⟨bki, bid, bf, bt, bnm, bn, bfr, bre, bvk, bvn⟩ := a
  go_enter Try.func9, Try.ntmps9
  go_wp2_with fail
  refine (lives_true _).mono ?_
  rintro e w1 ⟨rfl, hB1⟩
  have X1 := Lib.hid ((hB1.block w.heap.size (by simp)).trans (MapKept.heap_alloc w (.cells #[.int .i64 bki, .int .i64 bid, .int .i64 bf, .int .i64 bt, .int .i64 bnm, .int .i64 bn, .bool bfr, .bool bre, .int .i64 bvk, .int .i64 bvn] 36)).1)
  have B1 := Lib.hid (up2 (below1 w _) hB1)
  have z1 : w.heap.size < w1.heap.size := by have := hB1.size; simp at this; omega
  clear hB1
  have q0 := cell_kind X1.out 0 _ rfl
  have q1 := cell_kind X1.out 1 _ rfl
  have q2 := cell_kind X1.out 2 _ rfl
  have q3 := cell_kind X1.out 3 _ rfl
  have q4 := cell_kind X1.out 4 _ rfl
  have q5 := cell_kind X1.out 5 _ rfl
  have q6 := cell_kind X1.out 6 _ rfl
  have q7 := cell_kind X1.out 7 _ rfl
  have q8 := cell_kind X1.out 8 _ rfl
  have q9 := cell_kind X1.out 9 _ rfl
  go_wp2_with fail
  refine (n_do ⟨bki, bid, bf, bt, bnm, bn, bfr, bre, bvk, bvn⟩ w1).mono ?_
  rintro e w2 ⟨gv, rfl, b2⟩
  have X2 := Lib.hid ((b2.block w.heap.size z1).trans X1.out)
  have B2 := Lib.hid (up2 B1.out b2)
  have z2 : w.heap.size < w2.heap.size := Nat.lt_of_lt_of_le z1 b2.size
  clear b2 B1 X1 q0 q1 q2 q3 q4 q5 q6 q7 q8 q9
  have q1 := cell_kind X2.out 1 _ rfl
  go_wp2_with fail
  refine (n_ends _ w2).mono ?_
  rintro e w3 ⟨rfl, b3⟩
  have X3 := Lib.hid ((b3.block w.heap.size z2).trans X2.out)
  have B3 := Lib.hid (up2 B2.out b3)
  have z3 : w.heap.size < w3.heap.size := Nat.lt_of_lt_of_le z2 b3.size
  clear b3 B2 X2 q1
  have q2 := cell_kind X3.out 2 _ rfl
  have q4 := cell_kind X3.out 4 _ rfl
  go_wp2_with fail
  refine (n_value _ _ w3).mono ?_
  rintro e w4 ⟨rfl, b4⟩
  have al4 := (below1 w4 (.cells #[.int .i64 0, .int .i64 0] 34)).drew
  have X4 := Lib.hid ((al4.block w.heap.size (by have := b4.size; omega)).trans ((b4.block w.heap.size z3).trans X3.out))
  have B4 := Lib.hid (up2 (up2 B3.out b4) al4)
  have z4 : w.heap.size < (w4.alloc (.cells #[.int .i64 0, .int .i64 0] 34)).drew.heap.size := by have := b4.size; have := al4.size; omega
  clear b4 al4 B3 X3 q2 q4
  go_wp2_with fail
  try simp only [List.append_eq, List.cons_append, List.nil_append]
  refine wp_region_wins msk9 [(11, .one [0, 1, 2, 3, 4, 5, 6, 7, 8, 9] 10 (.done [])), (17, .one [11, 12, 13, 14, 15] 16 (.done [])), (23, .one [17, 18, 19, 20, 21] 22 (.done [])), (29, .one [23, 24, 25, 26, 27] 28 (.done [])), (39, .one [29, 30, 31, 32, 33, 34, 36, 37] 35 (.done [38])), (43, .one [39, 40, 41] 42 (.done [])), (45, .done [43, 44])] (by kernel_rfl) (fun c d v a w h => by cases d <;> exact h) (by kernel_rfl) ?_
  refine wins_next (fun _ => False) ?_
  simp only [wpMixT, pk_nil, pk_cons, pushAt_zero, pushAt_succ, List.drop_succ_cons, List.drop_zero]
  repeat (go_big_quiet_step (fail))
  refine wpQuiet_nil ?_
  go_wp2_with fail
  refine (n_at 1 _).mono ?_
  rintro e w5 ⟨v5, rfl, o5, c5⟩
  obtain ⟨A5, cc5, hv5, _, _, _⟩ := o5.shape eltI
  simp only [List.length_nil] at hv5
  clear o5
  subst hv5
  have X5 := Lib.hid ((c5.block w.heap.size z4).trans X4.out)
  have B5 := Lib.hid (up2 B4.out c5)
  have z5 : w.heap.size < w5.heap.size := Nat.lt_of_lt_of_le z4 c5.size
  have C5 := Lib.hid c5
  clear c5 B4 X4
  go_wp2_with fail
  refine thenQ_normal ⟨⟨⟨_, Only.of_below C5.out⟩, rfl⟩, ?_⟩
  refine wpQuiet_nil ?_
  refine wins_next (fun _ => False) ?_
  simp only [wpMixT, pk_nil, pk_cons, pushAt_zero, pushAt_succ, List.drop_succ_cons, List.drop_zero]
  repeat (go_big_quiet_step (fail))
  refine wpQuiet_nil ?_
  go_wp2_with fail
  refine (n_in 1 9 _).mono ?_
  rintro e w6 ⟨v6, rfl, o6, c6⟩
  obtain ⟨A6, cc6, hv6, _, _, _⟩ := o6.shape eltI
  simp only [List.length_nil] at hv6
  clear o6
  subst hv6
  have X6 := Lib.hid ((c6.block w.heap.size z5).trans X5.out)
  have B6 := Lib.hid (up2 B5.out c6)
  have z6 : w.heap.size < w6.heap.size := Nat.lt_of_lt_of_le z5 c6.size
  have C6 := Lib.hid c6
  clear c6 B5 X5
  go_wp2_with fail
  refine thenQ_normal ⟨⟨⟨_, Only.of_below C6.out⟩, rfl⟩, ?_⟩
  refine wpQuiet_nil ?_
  refine wins_next (fun _ => False) ?_
  simp only [wpMixT, pk_nil, pk_cons, pushAt_zero, pushAt_succ, List.drop_succ_cons, List.drop_zero]
  repeat (go_big_quiet_step (fail))
  refine wpQuiet_nil ?_
  go_wp2_with fail
  refine (n_all _).mono ?_
  rintro e w7 ⟨rfl, c7⟩
  have X7 := Lib.hid ((c7.block w.heap.size z6).trans X6.out)
  have B7 := Lib.hid (up2 B6.out c7)
  have z7 : w.heap.size < w7.heap.size := Nat.lt_of_lt_of_le z6 c7.size
  have C7 := Lib.hid c7
  clear c7 B6 X6
  go_wp2_with fail
  refine thenQ_normal ⟨⟨⟨_, Only.of_below C7.out⟩, rfl⟩, ?_⟩
  refine wpQuiet_nil ?_
  refine wins_next (fun _ => False) ?_
  simp only [wpMixT, pk_nil, pk_cons, pushAt_zero, pushAt_succ, List.drop_succ_cons, List.drop_zero]
  repeat (go_big_quiet_step (fail))
  refine wpQuiet_nil ?_
  go_wp2_with fail
  refine (n_many _).mono ?_
  rintro e w8 ⟨rfl, c8⟩
  have X8 := Lib.hid ((c8.block w.heap.size z7).trans X7.out)
  have B8 := Lib.hid (up2 B7.out c8)
  have z8 : w.heap.size < w8.heap.size := Nat.lt_of_lt_of_le z7 c8.size
  have C8 := Lib.hid c8
  clear c8 B7 X7
  go_wp2_with fail
  refine thenQ_normal ⟨⟨⟨_, Only.of_below C8.out⟩, rfl⟩, ?_⟩
  refine wpQuiet_nil ?_
  have q3 : ∀ x : OnW (fun _ => False) w8, x.w.cell? ⟨w.heap.size, 3, none⟩ = some (.int .i64 bt) := fun x => cell_kind ((x.on.block w.heap.size z8 (fun h => h)).trans X8.out) 3 _ rfl
  have hbt : (bt != bt) = false := by simp
  refine wins_next (fun _ => False) ?_
  simp only [wpMixT, pk_nil, pk_cons, pushAt_zero, pushAt_succ, List.drop_succ_cons, List.drop_zero]
  repeat (go_big_quiet_step (fail))
  refine wpQuiet_nil ?_
  go_wp2_with fail
  refine (n_next _ _ _).mono ?_
  rintro e w9 ⟨rfl, c9⟩
  have X9 := Lib.hid ((c9.block w.heap.size z8).trans X8.out)
  have B9 := Lib.hid (up2 B8.out c9)
  have z9 : w.heap.size < w9.heap.size := Nat.lt_of_lt_of_le z8 c9.size
  have C9 := Lib.hid c9
  clear c9 B8 X8
  go_wp2_with fail
  refine thenQ_normal ⟨⟨⟨_, Only.of_below C9.out⟩, rfl⟩, ?_⟩
  repeat (go_big_quiet_step (fail))
  refine wpQuiet_nil ?_
  clear q3 hbt
  refine wins_next (fun _ => False) ?_
  simp only [wpMixT, pk_nil, pk_cons, pushAt_zero, pushAt_succ, List.drop_succ_cons, List.drop_zero]
  repeat (go_big_quiet_step (fail))
  refine wpQuiet_nil ?_
  go_wp2_with fail
  refine (n_copy _).mono ?_
  rintro e w10 ⟨rfl, c10⟩
  have X10 := Lib.hid ((c10.block w.heap.size z9).trans X9.out)
  have B10 := Lib.hid (up2 B9.out c10)
  have z10 : w.heap.size < w10.heap.size := Nat.lt_of_lt_of_le z9 c10.size
  have C10 := Lib.hid c10
  clear c10 B9 X9
  go_wp2_with fail
  refine thenQ_normal ⟨⟨⟨_, Only.of_below C10.out⟩, rfl⟩, ?_⟩
  refine wpQuiet_nil ?_
  refine wins_next (fun _ => False) ?_
  simp only [wpMixT, pk_nil, pk_cons, pushAt_zero, pushAt_succ, List.drop_succ_cons, List.drop_zero]
  repeat (go_big_quiet_step (fail))
  refine wpQuiet_nil ?_
  refine wins_end ?_
  go_wp2_with fail
  refine (s_new 1 2 w10).mono ?_
  rintro e w11 ⟨ob, rfl, s2, hB2⟩
  have HST := Lib.hid (ActSt.start s2 hB2 (Below.refl _ w10))
  have HA10 := Lib.hid (HA.out.up B10.out)
  clear s2 hB2 HA
  go_wp2_with fail
  go_loopw [15] (fun vi wz => ∃ (j : Nat) (D : List OverD) (nx : Int), j ≤ l.length ∧ vi = .int .i64 j ∧ ActSt w10 wz ob 1 2 D nx j) (fun vi _ => l.length - (intOf vi).toNat)
  case atStart => exact ⟨0, [], 0, by omega, rfl, HST.out⟩
  case round =>
    clear HST
    obtain ⟨j, D, nx, hj, rfl, hst⟩ := hrel
    by_cases hlt : j < l.length
    · obtain ⟨⟨ki, id, af, at_, anm, an, afr, are, avk, avn⟩, hact⟩ : ∃ x, l[j]? = some x := ⟨_, List.getElem?_eq_getElem hlt⟩
      obtain ⟨g, o, hAe, hg, hcs⟩ := (HA10.out.up hst.bel).at_ eltA hact
      have k0 := hcs 0 _ rfl
      have k1 := hcs 1 _ rfl
      have k2 := hcs 2 _ rfl
      have k3 := hcs 3 _ rfl
      have k4 := hcs 4 _ rfl
      have k5 := hcs 5 _ rfl
      have k6 := hcs 6 _ rfl
      have k7 := hcs 7 _ rfl
      have k8 := hcs 8 _ rfl
      have k9 := hcs 9 _ rfl
      simp only [← Nat.add_assoc, Nat.add_zero] at k0 k1 k2 k3 k4 k5 k6 k7 k8 k9
      have hlt' : (j : Int) < l.length := by omega
      have HDO := Lib.hid (act_do hst ⟨ki, id, af, at_, anm, an, afr, are, avk, avn⟩ (by omega))
      clear hact hcs hst hg
      subst hAe
      go_wp2_with fail
      refine HDO.out.mono ?_
      rintro e w5 ⟨gv, rfl, h5⟩
      have H5 := Lib.hid h5
      clear h5 HDO
      go_wp2_with fail
      exact ⟨⟨j + 1, _, _, by omega, by go_num, H5.out⟩, by simp [intOf]; omega⟩
    · obtain rfl : j = l.length := by omega
      clear hlt
      obtain ⟨wA, rfl⟩ : ∃ x, x = wr := ⟨_, rfl⟩
      have hwf := hst.wf
      have hn1 := hst.n1
      have zA := hst.bel.size
      have HWF := Lib.hid hwf
      have HBA := Lib.hid hst.bel
      have HOA := Lib.hid hst.st
      clear hst hwf HA10
      go_wp2_with fail
      refine (s_copy HOA.out HWF.out).mono ?_
      rintro e w11 ⟨cb, rfl, sc, bc⟩
      have z11 := bc.size
      have HO11 := Lib.hid (HOA.out.tight'.up bc)
      have HC11 := Lib.hid sc.tight'
      have HB11 := Lib.hid (up2 HBA.out bc)
      clear sc bc HOA HBA
      go_wp2_with fail
      refine (st_all HO11.out HWF.out).mono ?_
      rintro e w12 ⟨v12, M12, rfl, ha12, b12⟩
      have z12 := b12.size
      have HO12 := Lib.hid (HO11.out.up b12)
      have HC12 := Lib.hid (HC11.out.up b12)
      have HB12 := Lib.hid (up2 HB11.out b12)
      have HA12 := Lib.hid ha12
      have X12 := Lib.hid ((HB12.out.block w.heap.size z10).trans X10.out)
      have HDC := Lib.hid (do_any HC12.out HWF.out ⟨bki, bid, bf, bt, bnm, bn, bfr, bre, bvk, bvn⟩ (by omega))
      obtain ⟨D', hD'⟩ : ∃ x, x = (doR 2 D nx ⟨bki, bid, bf, bt, bnm, bn, bfr, bre, bvk, bvn⟩).D := ⟨_, rfl⟩
      obtain ⟨nx', hnx'⟩ : ∃ x, x = (doR 2 D nx ⟨bki, bid, bf, bt, bnm, bn, bfr, bre, bvk, bvn⟩).nx := ⟨_, rfl⟩
      obtain ⟨ids, hids⟩ : ∃ x, x = (doR 2 D nx ⟨bki, bid, bf, bt, bnm, bn, bfr, bre, bvk, bvn⟩).ids := ⟨_, rfl⟩
      obtain ⟨er, her⟩ : ∃ x, x = (doR 2 D nx ⟨bki, bid, bf, bt, bnm, bn, bfr, bre, bvk, bvn⟩).err := ⟨_, rfl⟩
      have HWF' : Hid (WfD D' nx') := by rw [hD', hnx']; exact Lib.hid (wf_do HWF.out 2 _)
      have hnb : nx' ≤ nx + 1 := by rw [hnx']; exact (nx_do (D := D) 2 _).2
      have hil : ids.length ≤ 1024 := by rw [hids]; exact ids_len HWF.out 2 _
      have HE := Lib.hid (show (doR 2 D nx ⟨bki, bid, bf, bt, bnm, bn, bfr, bre, bvk, bvn⟩).D = D' ∧ (doR 2 D nx ⟨bki, bid, bf, bt, bnm, bn, bfr, bre, bvk, bvn⟩).nx = nx' ∧ (doR 2 D nx ⟨bki, bid, bf, bt, bnm, bn, bfr, bre, bvk, bvn⟩).ids = ids ∧ (doR 2 D nx ⟨bki, bid, bf, bt, bnm, bn, bfr, bre, bvk, bvn⟩).err = er from ⟨hD'.symm, hnx'.symm, hids.symm, her.symm⟩)
      rw [HE.out.1, HE.out.2.1, HE.out.2.2.1, HE.out.2.2.2] at HDC
      clear ha12 b12 HO11 HC11 HB11 hD' hnx' hids her
      have q0 := cell_kind X12.out 0 _ rfl
      have q1 := cell_kind X12.out 1 _ rfl
      have q2 := cell_kind X12.out 2 _ rfl
      have q3 := cell_kind X12.out 3 _ rfl
      have q4 := cell_kind X12.out 4 _ rfl
      have q5 := cell_kind X12.out 5 _ rfl
      have q6 := cell_kind X12.out 6 _ rfl
      have q7 := cell_kind X12.out 7 _ rfl
      have q8 := cell_kind X12.out 8 _ rfl
      have q9 := cell_kind X12.out 9 _ rfl
      go_wp2_with fail
      refine HDC.out.mono ?_
      rintro e w13 ⟨gx, rfl, ox, S13, c13, on13, hS13⟩
      have z13 := on13.size
      have HO13 := Lib.hid (HO12.out.only on13 (fun k hk _ h => by have := hk.2; have := h.1; omega))
      have HA13 := Lib.hid (HA12.out.only on13 (fun k hk => hk.2))
      have X13 := Lib.hid ((on13.block w.heap.size (by have := HB12.out.size; omega) (fun h => by have := h.1; omega)).trans X12.out)
      have HB13 := Lib.hid (HB12.out.trans (on13.below (by have := HB12.out.size; omega) fun k hk => by have := hk.1; omega))
      have HC13 := Lib.hid c13
      have HS13 := Lib.hid (fun k (hk : S13 k) => show wA.heap.size ≤ k by rcases hS13 k hk with h | h <;> omega)
      have HOX := Lib.hid ox
      have HSX := Lib.hid (fun k (hk : S13 k) => show gx.ownBlock ≠ some k by
        rcases hS13 k hk with h | h
        · intro e; have := ox.base e; omega
        · exact h.2)
      clear c13 on13 hS13 ox HDC HO12 HC12 HB12 HA12 X12 q0 q1 q2 q3 q4 q5 q6 q7 q8 q9
      go_wp2_with fail
      refine (st_all HO13.out HWF.out).mono ?_
      rintro e w14 ⟨v14, M14, rfl, ha14, b14⟩
      have z14 := b14.size
      have HSM := Lib.hid (all_same HWF.out ha14 (HA13.out.up b14))
      have HO14 := Lib.hid (HO13.out.up b14)
      have HC14 := Lib.hid (HC13.out.up b14)
      have HB14 := Lib.hid (up2 HB13.out b14)
      have HOX14 := Lib.hid (HOX.out.up b14)
      have X14 := Lib.hid ((b14.block w.heap.size (by have := HB13.out.size; omega)).trans X13.out)
      clear ha14 b14 HA13 HO13 HC13 HB13 HOX X13
      go_wp2_with fail
      refine HSM.out.mono ?_
      rintro e w15 ⟨rfl, b15⟩
      have z15 := b15.size
      have HO15 := Lib.hid (HO14.out.up b15)
      have HC15 := Lib.hid (HC14.out.up b15)
      have HB15 := Lib.hid (up2 HB14.out b15)
      have HOX15 := Lib.hid (HOX14.out.up b15)
      have X15 := Lib.hid ((b15.block w.heap.size (by have := HB14.out.size; omega)).trans X14.out)
      have HDO := Lib.hid (do_any HO15.out HWF.out ⟨bki, bid, bf, bt, bnm, bn, bfr, bre, bvk, bvn⟩ (by omega))
      rw [HE.out.1, HE.out.2.1, HE.out.2.2.1, HE.out.2.2.2] at HDO
      clear b15 HSM HO14 HC14 HB14 HOX14 X14
      have q0 := cell_kind X15.out 0 _ rfl
      have q1 := cell_kind X15.out 1 _ rfl
      have q2 := cell_kind X15.out 2 _ rfl
      have q3 := cell_kind X15.out 3 _ rfl
      have q4 := cell_kind X15.out 4 _ rfl
      have q5 := cell_kind X15.out 5 _ rfl
      have q6 := cell_kind X15.out 6 _ rfl
      have q7 := cell_kind X15.out 7 _ rfl
      have q8 := cell_kind X15.out 8 _ rfl
      have q9 := cell_kind X15.out 9 _ rfl
      go_wp2_with fail
      refine HDO.out.mono ?_
      rintro e w16 ⟨gy, rfl, oy, S16, s16, on16, hS16⟩
      have z16 := on16.size
      have HC16 := Lib.hid (HC15.out.only on16 (fun k hk _ h => by have := HS13.out k hk; have := h.2; omega))
      have HOX16 := Lib.hid (HOX15.out.kept (w' := w16) fun g hg => on16.block g (HOX15.out.lt hg) (fun h => by have := HOX15.out.base hg; have := h.2; omega))
      have HOY16 := Lib.hid oy
      have HO16 := Lib.hid (s16.mono (T := fun k => w10.heap.size ≤ k) fun k hk => by rcases hS16 k hk with h | h <;> omega)
      have HB16 := Lib.hid (HB15.out.trans (on16.below (by have := HB15.out.size; omega) fun k hk => hk.1))
      clear on16 hS16 s16 oy HDO HO15 HC15 HB15 HOX15 X15 q0 q1 q2 q3 q4 q5 q6 q7 q8 q9
      have hee : (er != er) = false := by simp
      obtain ⟨Ax, cx, hvx, _, _, rx⟩ := HOX16.out.shape eltI
      obtain ⟨Ay, cy, hvy, _, _, ry⟩ := HOY16.out.shape eltI
      have SM := Lib.hid (same_any rx ry cx cy (by omega) (by omega))
      rw [← hvx, ← hvy] at SM
      simp only [decide_true] at SM
      clear rx ry hvx hvy HOX16 HOY16 HSX
      go_wp2_with fail
      refine SM.out.mono ?_
      rintro e w17 ⟨rfl, b17⟩
      have z17 := b17.size
      have HO17 := Lib.hid (HO16.out.up b17)
      have HC17 := Lib.hid (HC16.out.up b17)
      have HB17 := Lib.hid (up2 HB16.out b17)
      clear b17 HO16 HC16 HB16 SM
      go_wp2_with fail
      refine (st_all HO17.out HWF'.out).mono ?_
      rintro e w18 ⟨v18, M18, rfl, ha18, b18⟩
      have HO18 := Lib.hid (HO17.out.up b18)
      have HC18 := Lib.hid (HC17.out.up b18)
      have HB18 := Lib.hid (up2 HB17.out b18)
      have HA18 := Lib.hid ha18
      clear ha18 b18 HO17 HC17 HB17
      go_wp2_with fail
      refine (st_all HC18.out HWF'.out).mono ?_
      rintro e w19 ⟨v19, M19, rfl, ha19, b19⟩
      have HO19 := Lib.hid (HO18.out.up b19)
      have HB19 := Lib.hid (up2 HB18.out b19)
      have HSM := Lib.hid (all_same HWF'.out (HA18.out.up b19) ha19)
      clear ha19 b19 HO18 HC18 HB18 HA18
      go_wp2_with fail
      refine HSM.out.mono ?_
      rintro e w20 ⟨rfl, b20⟩
      have hwl := wf_len HWF'.out
      have hfill : FillSt w10 w20 ob D' nx' := ⟨HWF'.out, by omega, .inl (by omega), HO19.out.up b20, up2 HB19.out b20⟩
      have HF := Lib.hid hfill
      clear b20 HSM HO19 HB19 hfill
      go_wp2_with fail
      go_loopw [] (fun wz => ∃ (D : List OverD) (nx : Int), FillSt w10 wz ob D nx) (fun wz => 1024 - manyOf wz ob)
      case atStart => exact ⟨_, _, HF.out⟩
      case round =>
        clear HF HWF' HWF HE hwl
        obtain ⟨D, nx, hf⟩ := hrel
        have hm := hf.st.many
        have hlen := hf.wf.len
        have hfn := hf.n1
        have HF := Lib.hid hf
        have HM := Lib.hid hm
        clear hf hm
        by_cases hlt : D.length < 1024
        · obtain ⟨e1, e2, e3, e4⟩ := add_more (nx := nx) hlt
          have HADD := Lib.hid (s_add HF.out.st HF.out.wf 1 2 false false (by omega))
          have HW2 := Lib.hid (wf_add HF.out.wf 1 2 false false)
          rw [e1, e2, e3, e4] at HADD
          rw [e3, e4] at HW2
          have hlt' : (D.length : Int) < 1024 := by omega
          clear e1 e2 e3 e4
          go_wp2_with fail
          refine (s_many HF.out.st).mono ?_
          rintro e w' ⟨rfl, rfl⟩
          go_wp2_with fail
          refine HADD.out.mono ?_
          rintro e w22 ⟨rfl, S22, s22, on22, hS22⟩
          have hzf := HF.out.bel.size
          have hf2 : FillSt w10 w22 ob (D ++ [newD nx 1 2 false false]) (nx + 1) :=
            ⟨HW2.out, by simp; omega, .inr ⟨newD nx 1 2 false false, by simp, by rfl⟩, s22.mono fun k hk => by (rcases hS22 k hk with h | h <;> omega), HF.out.bel.trans (on22.below hzf fun k hk => hk)⟩
          have hm2 := hf2.st.many
          have HF2 := Lib.hid hf2
          have HM2 := Lib.hid hm2
          clear s22 on22 hS22 hf2 hm2 HADD HW2
          go_wp2_with fail
          exact ⟨⟨_, _, HF2.out⟩, by rw [HM2.out, HM.out, List.length_append]; simp; omega⟩
        · obtain ⟨e1, e2, e3, e4⟩ := add_full (nx := nx) hlt
          have hD : D.length = 1024 := by omega
          have HADD := Lib.hid (s_add HF.out.st HF.out.wf 1 2 false false (by omega))
          rw [e1, e2, e3, e4] at HADD
          have hat : 1 ≤ (atI 1 D 1).length := by
            rcases HF.out.one with h | ⟨x, hx, hc⟩
            · omega
            · exact at_one HF.out.wf hx hc
          have hal := atI_len (pr := 1) (D := D) 1
          have hlt' : ((D.length : Nat) : Int) = 1024 := by omega
          have HD := Lib.hid hlt'
          clear e1 e2 e3 e4 hD hlt hlt'
          go_wp2_with fail
          refine (s_many HF.out.st).mono ?_
          rw [HD.out]
          rintro e w' ⟨rfl, rfl⟩
          go_wp2_with fail
          refine HADD.out.mono ?_
          rintro e w22 ⟨rfl, S22, s22, on22, hS22⟩
          have hzf := HF.out.bel.size
          have HB22 := Lib.hid (HF.out.bel.trans (on22.below hzf fun k hk => hk))
          have HO22 := Lib.hid s22
          clear s22 on22 hS22 HADD
          go_wp2_with fail
          refine (s_at HO22.out HF.out.wf 1).mono ?_
          rintro e w23 ⟨v23, rfl, o23, b23⟩
          obtain ⟨A23, c23, hv23, _, _, _⟩ := o23.shape eltI
          have hge : ((1 : Int) ≤ ((atI 1 D 1).length : Int)) := by omega
          have HO23 := Lib.hid (HO22.out.up b23)
          have HB23 := Lib.hid (up2 HB22.out b23)
          clear o23 b23 HO22 HB22 hat
          subst hv23
          generalize (atI 1 D 1).length = na at *
          go_wp2_with fail
          refine (s_many HO23.out).mono ?_
          rw [HD.out]
          rintro e w' ⟨rfl, rfl⟩
          go_wp2_with fail
          go_ret
          exact ⟨rfl, up2 B10.out HB23.out⟩
set_option maxRecDepth 100000 in
set_option maxHeartbeats 1000000 in
theorem apart18_many (A : Option Addr) (cap ln : Nat) (a : Act18) (w : World) (hl : 60 < ln) (hm : ln ≤ maxLen) :
    Calls Try.prog 9 #[.slice A ln cap, actV a] w fun e w' => e = .returned (.bool true) ∧ Below w.heap.size w w' := by
  unfold maxLen at hm
  have hl' : (60 : Int) < (ln : Int) := by omega
  obtain ⟨bki, bid, bf, bt, bnm, bn, bfr, bre, bvk, bvn⟩ := a
  go_enter Try.func9, Try.ntmps9
  go_wp2_with fail
  refine (lives_true _).mono ?_
  rintro e w1 ⟨rfl, hB1⟩
  go_wp2_with fail
  go_ret
  exact ⟨rfl, up2 (below1 _ _) hB1⟩
theorem apart18_walk (A : Option Addr) (ln cap : Nat) (a : Act18) (l : List Act18) (w : World) (h : l.length = ln ∧ ln ≤ maxLen ∧ RSl encA w A l) :
    Calls Try.prog 9 #[.slice A ln cap, actV a] w fun e w' => e = .returned (.bool true) ∧ Below w.heap.size w w' := by
  obtain ⟨rfl, hm, hA⟩ := h
  by_cases hl : l.length ≤ 60
  · exact apart18_some A cap l a w hl hA
  · exact apart18_many A cap l.length a w (by omega) hm
end Go.Proofs.Ythjkdeocdhdkaaa
