import Derived.Test.YtnbccoelbfgmgaaGreatDoorKcR
/- KillBack: the walk. -/
namespace Go.Proofs.YtnbccoelbfgmgaaGreatDoor
open Go.RowKit Go.Lib
set_option linter.unusedVariables false
set_option linter.unusedSimpArgs false
/-- Bytes that the law speaks of. -/
def okB (u : UInt8) : Bool := (decide (32 ≤ u.toNat) && decide (u.toNat ≤ 126)) || decide (u.toNat = 10)
theorem okB_ascii {s : ByteArray} (h : ∀ u ∈ s.data.toList, okB u = true) : (charsD s.data.toList).isSome = true ∧ (∀ c ∈ chrs s, okC c) ∧ (chrs s).length = s.size := by
  have h1 : s = encS (s.data.toList.map UInt8.toNat) := by
    refine bytes_ext ?_
    rw [encS_list, encL_ascii _ (fun c hc => by
      obtain ⟨u, hu, rfl⟩ := List.mem_map.1 hc
      have := h u hu
      unfold okB at this
      simp only [Bool.or_eq_true, Bool.and_eq_true, decide_eq_true_eq] at this
      omega), List.map_map]
    conv => lhs; rw [← List.map_id s.data.toList]
    refine List.map_congr_left fun u _ => ?_
    simp
  have h2 : ∀ c ∈ s.data.toList.map UInt8.toNat, okC c := fun c hc => by
    obtain ⟨u, hu, rfl⟩ := List.mem_map.1 hc
    have := h u hu
    unfold okB at this
    simp only [Bool.or_eq_true, Bool.and_eq_true, decide_eq_true_eq] at this
    unfold okC; omega
  have h3 := chrs_encS (fun c hc => by have := h2 c hc; unfold okC at this; unfold isN; omega : ∀ c ∈ s.data.toList.map UInt8.toNat, isN c)
  rw [← h1] at h3
  refine ⟨h3.2, by rw [h3.1]; exact h2, by rw [h3.1, List.length_map]; exact size_len _⟩
theorem cutP_small {w w' : World} {T : Tx} {R : List Row3} {e : Ending} (h : CutP w T R e w') (hm : manyR R ≤ 65536) : ∃ v, e = .returned (.tuple #[v, .int .i64 0]) ∧ ROwn encStr 9 1 w.heap.size w' v (R.map (cutS T)) ∧ Below w.heap.size w w' := by
  unfold CutP at h
  rw [if_neg (by omega)] at h
  exact h
theorem ba_list (a : ByteArray) : a.toList = a.data.toList := ByteArray.toList_eq a
theorem RSl.sameS {w w' : World} {A : Option Addr} {L : List ByteArray} (h : RSl encStr w A L) (hs : w.heap.size ≤ w'.heap.size) (hk : ∀ g o z, A = some ⟨g, o, z⟩ → g < w.heap.size → w'.heap[g]? = w.heap[g]?) : RSl encStr w' A L := fun hp => by
  obtain ⟨g, o, rfl, hg, hc⟩ := h hp
  exact ⟨g, o, rfl, by omega, fun j u hu => (World.cell?_of_block (hk g o none rfl hg)).trans (hc j u hu)⟩
theorem takeT_G (T : Tx) (x y : Nat) : (takeT T x y).G = T.G := by unfold takeT; split <;> rfl
theorem erF_G (T : Tx) : ∀ L : List Row3, (erF T L).2.G = T.G
  | [] => rfl
  | r :: L => by
    have ih := erF_G T L
    by_cases h : (erF T L).1 = 0
    · rw [erF_cons T r L h]
      dsimp only
      split
      · exact (takeT_G _ _ _).trans ih
      · exact ih
    · rw [erF_bad T r L h]; exact ih
section
variable {w w' : World} {N : Nat}
set_option maxRecDepth 100000 in
set_option maxHeartbeats 16000000 in
theorem back_true (hT : Tabs N w) (hR : Rules N w) (hN : N ≤ w.heap.size) (s : ByteArray) (hs : s.size ≤ 9223372036854775807) (fv tv : Int) :
    Calls Tryz.prog 4 #[.string s, .int .i64 fv, .int .i64 tv] w fun r w' => r = .returned (.bool true) ∧ Below w.heap.size w w' := by
  have HT := Lib.hid hT
  have HR := Lib.hid hR
  have HN := Lib.hid hN
  have HS := Lib.hid hs
  clear hT hR hN hs
  go_enter Tryz.func4, Tryz.ntmps4
  go_wp2_with fail
  refine (lives_true HT.out HN.out).mono ?_
  rintro e w1 ⟨rfl, hb1⟩
  have B1 := Lib.hid hb1
  clear hb1
  go_wp2_with fail
  go_loopw [7] (fun va wr => ∃ k : Nat, k ≤ s.size ∧ va = .int .i64 k ∧ (∀ u ∈ s.data.toList.take k, okB u = true) ∧ w1 = wr) (fun va _ => int2 va (.int .i64 s.size))
  case atStart => exact ⟨0, Nat.zero_le _, rfl, by simp, rfl⟩
  case round =>
    obtain ⟨k, hk, rfl, hall, rfl⟩ := hrel
    have HALL := Lib.hid hall
    clear hall
    by_cases hlt : k < s.size
    · have d1 : decide ((k : Int) < (s.size : Int)) = true := decide_eq_true (by omega)
      have d2 : (k < s.size) = True := eq_true hlt
      have hss := HS.out
      have s1 : IntKind.i64.wrap ((k : Int) + 1) = ((k + 1 : Nat) : Int) := by rw [IntWalk.i64_in _ (by omega)]; omega
      have htk : s.data.toList.take (k + 1) = s.data.toList.take k ++ [s[k]] := by
        rw [List.take_add_one, ← List.head?_drop, drop_byte s k hlt]; rfl
      have HTK := Lib.hid htk
      clear htk hss
      have HU : s[k].toNat < 256 := s[k].toNat_lt
      by_cases h1 : s[k].toNat < 32
      · by_cases h2 : s[k].toNat = 10
        · have h0 : True := trivial
          have eaa : decide ((s[k].toNat : Int) < 32) = true := decide_eq_true (by omega)
          have eab : (s[k].toNat < 32) = True := eq_true (by omega)
          have eba : decide ((126 : Int) < (s[k].toNat : Int)) = false := decide_eq_false (by omega)
          have ebb : (126 < s[k].toNat) = False := eq_false (by omega)
          have eca : ((s[k].toNat : Int) == 10) = true := by simp; omega
          have ecb : (s[k].toNat = 10) = True := eq_true (by omega)
          have ecc : ((s[k].toNat : Int) != 10) = false := by simp; omega
          have ecd : (s[k].toNat == 10) = true := by simp; omega
          have ece : (s[k].toNat != 10) = false := by simp; omega
          go_wp2_with fail
          go_roundw
          case rel =>
            refine ⟨k + 1, by omega, rfl, fun u hu => ?_, trivial⟩
            rw [HTK.out, List.mem_append, List.mem_singleton] at hu
            rcases hu with hu | rfl
            · exact HALL.out u hu
            · unfold okB; simp only [Bool.or_eq_true, Bool.and_eq_true, decide_eq_true_eq]; omega
          case measure => simp [int2]; omega
        · have h0 : True := trivial
          have eaa : decide ((s[k].toNat : Int) < 32) = true := decide_eq_true (by omega)
          have eab : (s[k].toNat < 32) = True := eq_true (by omega)
          have eba : decide ((126 : Int) < (s[k].toNat : Int)) = false := decide_eq_false (by omega)
          have ebb : (126 < s[k].toNat) = False := eq_false (by omega)
          have eca : ((s[k].toNat : Int) == 10) = false := by simp; omega
          have ecb : (s[k].toNat = 10) = False := eq_false (by omega)
          have ecc : ((s[k].toNat : Int) != 10) = true := by simp; omega
          have ecd : (s[k].toNat == 10) = false := by simp; omega
          have ece : (s[k].toNat != 10) = true := by simp; omega
          go_wp2_with fail
          go_ret
          exact ⟨rfl, B1.out⟩
      · by_cases h2 : 126 < s[k].toNat
        · have h0 : True := trivial
          have eaa : decide ((s[k].toNat : Int) < 32) = false := decide_eq_false (by omega)
          have eab : (s[k].toNat < 32) = False := eq_false (by omega)
          have eba : decide ((126 : Int) < (s[k].toNat : Int)) = true := decide_eq_true (by omega)
          have ebb : (126 < s[k].toNat) = True := eq_true (by omega)
          have eca : ((s[k].toNat : Int) == 10) = false := by simp; omega
          have ecb : (s[k].toNat = 10) = False := eq_false (by omega)
          have ecc : ((s[k].toNat : Int) != 10) = true := by simp; omega
          have ecd : (s[k].toNat == 10) = false := by simp; omega
          have ece : (s[k].toNat != 10) = true := by simp; omega
          go_wp2_with fail
          go_ret
          exact ⟨rfl, B1.out⟩
        · have h0 : True := trivial
          have eaa : decide ((s[k].toNat : Int) < 32) = false := decide_eq_false (by omega)
          have eab : (s[k].toNat < 32) = False := eq_false (by omega)
          have eba : decide ((126 : Int) < (s[k].toNat : Int)) = false := decide_eq_false (by omega)
          have ebb : (126 < s[k].toNat) = False := eq_false (by omega)
          have eca : ((s[k].toNat : Int) == 10) = false := by simp; omega
          have ecb : (s[k].toNat = 10) = False := eq_false (by omega)
          have ecc : ((s[k].toNat : Int) != 10) = true := by simp; omega
          have ecd : (s[k].toNat == 10) = false := by simp; omega
          have ece : (s[k].toNat != 10) = true := by simp; omega
          go_wp2_with fail
          go_roundw
          case rel =>
            refine ⟨k + 1, by omega, rfl, fun u hu => ?_, trivial⟩
            rw [HTK.out, List.mem_append, List.mem_singleton] at hu
            rcases hu with hu | rfl
            · exact HALL.out u hu
            · unfold okB; simp only [Bool.or_eq_true, Bool.and_eq_true, decide_eq_true_eq]; omega
          case measure => simp [int2]; omega
    · obtain rfl : k = s.size := by omega
      have d1 : decide ((s.size : Int) < (s.size : Int)) = false := decide_eq_false (by omega)
      have hall := HALL.out
      rw [List.take_of_length_le (by simp)] at hall
      obtain ⟨hv, hok, hcl⟩ := okB_ascii hall
      have HV := Lib.hid hv
      have HOK := Lib.hid hok
      have HCL := Lib.hid hcl
      have hN1 : N ≤ w1.heap.size := by have := HN.out; have := B1.out.size; omega
      have hss := HS.out
      clear hall hv hok hcl HALL hk
      by_cases h80 : s.size ≤ 80
      · have e8 : decide ((80 : Int) < (s.size : Int)) = false := decide_eq_false (by omega)
        have e9 : (80 < s.size) = False := eq_false (by omega)
        have hcall := of25_ok (HT.out.up B1.out) (HR.out.up B1.out) hN1 s (by omega) HV.out
        have HCA := Lib.hid hcall
        clear hcall hN1 hss
        go_wp2_with fail
        refine HCA.out.mono ?_
        rintro e w5 ⟨b, T, rfl, hb5, hp5, hT5⟩
        have S5 := Lib.hid (show St N w w.heap.size b w5 T 5 from ⟨up2 B1.out hb5, hp5.mono (fun k hk => Nat.le_trans B1.out.size hk.1) (Nat.le_refl _), (up2 B1.out hb5).size⟩)
        have O5 := Lib.hid hT5
        have H80 := Lib.hid h80
        have P5 := Lib.hid hp5
        have B5 := Lib.hid hb5
        clear hb5 hp5 hT5 HCA h80
        have HEF := Lib.hid (show edF N (fun k => w1.heap.size ≤ k ∧ k < w5.heap.size) from fun k hk => by have h1 := HN.out; have h2 := B1.out.size; omega)
        have FIN := Lib.hid (show ∀ w11 w12 w13 w15 : World, Below w5.heap.size w5 w11 → Only (fun k => w1.heap.size ≤ k ∧ k < w5.heap.size) w11 w12 → Only (grow (fun k => w1.heap.size ≤ k ∧ k < w5.heap.size) w11.heap.size) w12 w13 → Below w13.heap.size w13 w15 → Below w.heap.size w w15 from fun w11 w12 w13 w15 h1 h2 h3 h4 => by
          have z1 := B1.out.size
          have z5 := B5.out.size
          have z11 := h1.size
          have z12 := h2.size
          have z13 := h3.size
          have a1 : Below w.heap.size w w11 := (up2 (up2 B1.out B5.out) h1)
          have a2 : Below w.heap.size w w12 := a1.trans (h2.below (by omega) (fun k hk => by omega))
          have a3 : Below w.heap.size w w13 := a2.trans (h3.below (by omega) (fun k hk => by rcases hk with q | q <;> omega))
          exact a3.trans (h4.mono (by omega)))
        have SUB := Lib.hid (show ∀ (w11 w12 : World) (k : Nat), Below w5.heap.size w5 w11 → Only (fun k => w1.heap.size ≤ k ∧ k < w5.heap.size) w11 w12 → grow (grow (fun k => w1.heap.size ≤ k ∧ k < w5.heap.size) w11.heap.size) w12.heap.size k → w.heap.size ≤ k from fun w11 w12 k h1 h2 hk => by
          have z1 := B1.out.size
          have z5 := B5.out.size
          have z11 := h1.size
          have z12 := h2.size
          rcases hk with (q | q) | q <;> omega)
        have hsn := S5.out.pb.sane
        obtain ⟨n, hn⟩ : ∃ n, n = T.cs.length := ⟨_, rfl⟩
        have hn80 : n ≤ 80 := by rw [hn, O5.out.cs, HCL.out]; exact H80.out
        obtain ⟨q1, q2⟩ := pick_pos fv (n + 1 : Nat) (by omega)
        obtain ⟨q3, q4⟩ := pick_pos tv (n + 1 : Nat) (by omega)
        have K1 := Lib.hid (fun w => pick_any fv (n + 1 : Nat) w (by omega) (by omega))
        have K2 := Lib.hid (fun w => pick_any tv (n + 1 : Nat) w (by omega) (by omega))
        generalize pickI fv (n + 1 : Nat) = p1 at *
        generalize pickI tv (n + 1 : Nat) = p2 at *
        obtain ⟨x, hx⟩ : ∃ k : Nat, 1 + p1 = (k : Int) := ⟨(1 + p1).toNat, by omega⟩
        obtain ⟨y, hy⟩ : ∃ k : Nat, 1 + p2 = (k : Int) := ⟨(1 + p2).toNat, by omega⟩
        have s0 : IntKind.i64.wrap ((n : Int) + 1) = ((n + 1 : Nat) : Int) := by rw [IntWalk.i64_in _ (by omega)]; omega
        have s1 : IntKind.i64.wrap (1 + p1) = (x : Int) := by rw [hx]; exact IntWalk.i64_in _ (by omega)
        have s2 : IntKind.i64.wrap (1 + p2) = (y : Int) := by rw [hy]; exact IntWalk.i64_in _ (by omega)
        have HXY := Lib.hid (show (1 ≤ x ∧ x ≤ n + 1) ∧ 1 ≤ y ∧ y ≤ n + 1 by omega)
        have HNN := Lib.hid hn
        have HN80 := Lib.hid hn80
        have hps := fun w' (hb : Below w5.heap.size w5 w') => psize (S5.out.pb.up hb)
        rw [← hn] at hps
        have HPS := Lib.hid hps
        have hbr := fun w' (hb : Below w5.heap.size w5 w') => (S5.out.pb.up hb).r
        rw [O5.out.wide.lo, O5.out.wide.hi, ← hn, O5.out.cs] at hbr
        have HBR := Lib.hid hbr
        obtain ⟨cs, hcs⟩ : ∃ cs, cs = chrs s := ⟨_, rfl⟩
        have hO := O5.out
        rw [← hcs] at HBR HOK HCL hO
        have O6 := Lib.hid hO
        have hnc : n = cs.length := by rw [hn, hO.cs]
        obtain ⟨cx, cy, left, right, p, L, Ls, pre, suf, hbl⟩ := backL HOK.out x y (by omega) (by omega) (by omega) (by omega)
        have HNC := Lib.hid hnc
        have HBL := Lib.hid hbl
        obtain ⟨T2, hbe⟩ := backE hO HOK.out (by omega) hbl
        have HBE := Lib.hid hbe
        have HCS := Lib.hid hcs
        have hrc := rows_cut left right (by rw [hbl.lf, hbl.rt]; omega) hO.wide Ls pre L (hO.cs.trans hbl.ln.eq)
        have hrb := rowsZ_B left right n (by rw [hbl.lf, hbl.rt]; omega) (by have := hbl.rl; omega) (by omega) Ls pre L (by rw [← hbl.ln.eq]; omega)
        have hrl := rowsZ_len left right Ls pre L
        have hrm := rowsZ_many left right (by rw [hbl.lf, hbl.rt]; omega) Ls pre L
        have hmm : ((Ls.length + 1 : Nat) : Int) * ((right - left : Nat) : Int) ≤ 65536 := by
          have h1 : (Ls.length + 1) * (right - left) ≤ 81 * 80 := Nat.mul_le_mul (by have := hbl.ls; omega) (by have := hbl.rl; omega)
          have h2 : (((Ls.length + 1) * (right - left) : Nat) : Int) ≤ 65536 := by omega
          rw [Int.natCast_mul] at h2; exact h2
        rw [← hrm] at hmm
        have hmsz : ∀ z ∈ (L :: Ls).map (fun K => encS (midK left right K)), z.size = right - left := fun z hz => by
          obtain ⟨K, hK, rfl⟩ := List.mem_map.1 hz
          refine mid_size left right (by rw [hbl.lf, hbl.rt]; omega) K (fun c hc => ?_)
          have h1 : c ∈ cs := by
            rw [hbl.ln.eq]
            rcases List.mem_cons.1 hK with rfl | hK
            · exact List.mem_append_right _ (List.mem_append_left _ hc)
            · exact List.mem_append_right _ (List.mem_append_right _ (List.mem_append_left _ (mem_tailJ hc hK)))
          have := HOK.out c h1
          unfold okC at this; omega
        have hrows := fun w' (hb : Below w5.heap.size w5 w') => rows_ok (HBR.out w' hb) x y (by omega : 1 ≤ 8) (by omega) (by omega) (by omega) (by omega) (by omega) (fun b i hi => colN_cap9 (by omega) b i (by omega)) left right (by rw [hbl.ecx, hbl.ecy]; exact hbl.lf) (by rw [hbl.ecx, hbl.ecy]; exact hbl.rt) p Ls.length (by have := hbl.ls; omega) hbl.e0 hbl.pM hbl.pn (by rw [hnc]; exact hbl.ps) (by rw [hnc]; exact hbl.pl)
        have hrw := hbl.rows
        rw [← hnc] at hrw
        rw [hrw] at hrows
        obtain ⟨R, hR⟩ : ∃ R, R = rowsZ left right pre L Ls := ⟨_, rfl⟩
        obtain ⟨ss, hss⟩ : ∃ ss, ss = (L :: Ls).map (fun K => encS (midK left right K)) := ⟨_, rfl⟩
        rw [← hR] at hrows hrc hrb hrl hmm
        rw [← hss] at hrc hmsz
        rw [← hR, ← hss] at HBE
        have hsl : ss.length = Ls.length + 1 := by rw [hss]; simp
        have HROWS := Lib.hid hrows
        have HRB := Lib.hid (show RowsB R from ⟨by rw [hrl]; have := hbl.ls; omega, fun r hr => by have := hrb r hr; omega⟩)
        have HRL := Lib.hid (show R.length ≤ 81 ∧ ss.length ≤ 81 ∧ 1 ≤ ss.length by have := hbl.ls; omega)
        have HRC := Lib.hid hrc
        have HMM := Lib.hid hmm
        have HMS := Lib.hid hmsz
        have hcolx := fun w' (hb : Below w5.heap.size w5 w') => column_ok (HBR.out w' hb) x 8 (by omega) (by omega) (by omega) (by omega)
        have hcoly := fun w' (hb : Below w5.heap.size w5 w') => column_ok (HBR.out w' hb) y 8 (by omega) (by omega) (by omega) (by omega)
        have hbeg := fun w' (hb : Below w5.heap.size w5 w') => begin_ok (HBR.out w' hb) (min x y) (by omega) (by omega)
        rw [hbl.ecx] at hcolx
        rw [hbl.ecy] at hcoly
        rw [← hbl.e0, hbl.pp] at hbeg
        obtain ⟨P0, hP0⟩ : ∃ P0, P0 = pre.length + 1 := ⟨_, rfl⟩
        rw [← hP0] at hbeg HBE
        have hbnd : left ≤ 80 ∧ right ≤ 80 ∧ left ≤ right ∧ P0 ≤ 81 := by have := hbl.rl; have := hbl.ln.len; rw [hbl.lf, hbl.rt] at *; omega
        have hxc : (left = min cx cy ∧ right = max cx cy) ∧ (x = y → cx = cy) := ⟨⟨hbl.lf, hbl.rt⟩, fun e => by rw [← hbl.ecx, ← hbl.ecy, e]⟩
        have HCX := Lib.hid hcolx
        have HCY := Lib.hid hcoly
        have HBG := Lib.hid hbeg
        have HBND := Lib.hid hbnd
        clear hsn hn hn80 q1 q2 q3 q4 hx hy hps hbr hO hnc hbl hbe hcs hrc hrb hrl hrm hmm hmsz hrows hrw hR hss hsl hcolx hcoly hbeg hP0 hbnd d1
        go_wp2_with fail
        refine (HPS.out w5 (Below.refl _ _)).mono ?_
        rintro e w6 ⟨rfl, hb6⟩
        have D6 := Lib.hid hb6
        clear hb6 e8 e9
        go_wp2_with fail
        refine (K1.out w6).mono ?_
        rintro e w7 ⟨rfl, rfl⟩
        go_wp2_with fail
        refine (HPS.out w6 D6.out).mono ?_
        rintro e w7 ⟨rfl, hb7⟩
        have D7 := Lib.hid (up2 D6.out hb7)
        clear hb7 D6
        go_wp2_with fail
        refine (K2.out w7).mono ?_
        rintro e w8 ⟨rfl, rfl⟩
        clear K1 K2
        go_wp2_with fail
        refine (HCX.out w7 D7.out).mono ?_
        rintro e w8 ⟨rfl, hb8⟩
        have D8 := Lib.hid (up2 D7.out hb8)
        clear hb8 D7 HCX
        go_wp2_with fail
        refine (HCY.out w8 D8.out).mono ?_
        rintro e w9 ⟨rfl, hb9⟩
        have D9 := Lib.hid (up2 D8.out hb9)
        clear hb9 D8 HCY s0 s1 s2
        have mm1 : min (x : Int) (y : Int) = ((min x y : Nat) : Int) := by omega
        have mm2 : min (cx : Int) (cy : Int) = (left : Int) := by have := hxc.1; omega
        have mm3 : max (cx : Int) (cy : Int) = (right : Int) := by have := hxc.1; omega
        obtain ⟨mn, hmn⟩ : ∃ mn, mn = min x y := ⟨_, rfl⟩
        rw [← hmn] at mm1 HBG
        clear hxc hmn
        go_wp2_with fail
        refine (HBG.out w9 D9.out).mono ?_
        rintro e w10 ⟨rfl, hb10⟩
        have D10 := Lib.hid (up2 D9.out hb10)
        clear hb10 D9 HBG
        go_wp2_with fail
        have hcut := (cut_ok (S5.out.pb.up D10.out) x y 8 (fun w' hb => HROWS.out w' (up2 D10.out hb)) HRB.out).mono (fun e w' h => cutP_small h HMM.out)
        rw [HRC.out] at hcut
        have HCUT := Lib.hid hcut
        clear hcut
        refine HCUT.out.mono ?_
        rintro e w11 ⟨v, rfl, hown, hb11⟩
        obtain ⟨A, cp, rfl, _, _, hrs⟩ := hown.shape eltStr
        have D11 := Lib.hid (up2 D10.out hb11)
        have OWN := Lib.hid hown
        have HRS := Lib.hid hrs
        have HD10 := Lib.hid D10.out.size
        clear hb11 hown hrs HCUT
        obtain ⟨m, hm⟩ : ∃ m, m = ss.length := ⟨_, rfl⟩
        rw [← hm]
        have HM := Lib.hid hm
        have hm1 : 1 ≤ m ∧ m ≤ 81 := by rw [hm]; have := HRL.out; omega
        have e3 : decide ((m : Int) < 1) = false := decide_eq_false (by omega)
        have e4 : (m < 1) = False := eq_false (by omega)
        have e5 : (m = 0) = False := eq_false (by omega)
        have HM1 := Lib.hid hm1
        clear hm hm1
        go_wp2_with fail
        clear e3 e4 e5
        have hm1 := HM1.out
        go_loopw [18] (fun va wr => ∃ k : Nat, k ≤ m ∧ va = .int .i64 k ∧ w11 = wr) (fun va _ => int2 va (.int .i64 m))
        case atStart => exact ⟨0, Nat.zero_le _, rfl, rfl⟩
        case round =>
          obtain ⟨k, hk, rfl, rfl⟩ := hrel
          by_cases hlt : k < m
          · have f1 : decide ((k : Int) < (m : Int)) = true := decide_eq_true (by omega)
            have f2 : (k < m) = True := eq_true hlt
            have f3 : (k : Int) < m := by omega
            have s1 : IntKind.i64.wrap ((k : Int) + 1) = ((k + 1 : Nat) : Int) := by rw [IntWalk.i64_in _ (by omega)]; omega
            obtain ⟨z, hz⟩ : ∃ z, ss[k]? = some z := ⟨_, List.getElem?_eq_getElem (by rw [← HM.out]; exact hlt)⟩
            have hzs := HMS.out z (List.mem_of_getElem? hz)
            obtain ⟨g, o, rfl, hg, hcg⟩ := HRS.out.at_ eltStr hz
            have k0 := hcg 0 _ rfl
            simp only [Nat.mul_one, Nat.add_zero] at k0
            have hbd := HBND.out
            obtain ⟨d, hd⟩ : ∃ d, d = right - left := ⟨_, rfl⟩
            have s3 : IntKind.i64.wrap ((right : Int) - (left : Int)) = (d : Int) := by rw [IntWalk.i64_in _ (by omega)]; omega
            have g1 : ((z.size : Int) != (d : Int)) = false := by simp; omega
            have g2 : (z.size != d) = false := by simp; omega
            have g3 : (z.size = d) = True := eq_true (by omega)
            clear hd
            clear hcg hz hg hzs hbd
            go_wp2_with fail
            go_roundw
            case rel => exact ⟨k + 1, by omega, rfl, trivial⟩
            case measure => simp [int2]; omega
          · obtain rfl : k = m := by omega
            have f1 : decide ((k : Int) < (k : Int)) = false := decide_eq_false (by omega)
            have hGG : ∀ g ∈ T.G, g.length ≤ 1000000 := fun g hg => by have := O6.out.g g hg; omega
            have HGG := Lib.hid hGG
            have hT11 := HT.out.up (up2 (up2 B1.out B5.out) D11.out)
            have hR11 := HR.out.up (up2 (up2 B1.out B5.out) D11.out)
            have hpb := P5.out.up D11.out
            have hbd1 : 5 + R.length * (T.cs.length + 4) ≤ 9000 := by
              have h1 : R.length * (T.cs.length + 4) ≤ 81 * 84 := Nat.mul_le_mul HRL.out.1 (by have := HNN.out; have := HN80.out; omega)
              omega
            have HBD1 := Lib.hid hbd1
            have her := Erase_ok hT11 hR11 hpb HEF.out O6.out.wide.ro (by have := HRL.out; omega) (by omega) hGG x y 8 (fun w' hb => HROWS.out w' (up2 D11.out hb))
            have HER := Lib.hid her
            clear hGG hT11 hR11 hpb hbd1 her hk hlt hm1
            go_wp2_with fail
            refine HER.out.mono ?_
            rintro e w12 ⟨rfl, ho12, hp12⟩
            rw [if_pos HBE.out.er] at hp12
            have hE0 := HBE.out.er
            have hat := HBE.out.at_
            have hcl := HBE.out.col
            have hpa := HBE.out.pa
            have ht2 := HBE.out.t2
            obtain ⟨T1, hT1⟩ : ∃ T1, T1 = (erF T R).2 := ⟨_, rfl⟩
            rw [← hT1] at hp12 hat hcl hpa ht2
            rw [hE0]
            have hT12 := Tabs.only (HT.out.up (up2 (up2 B1.out B5.out) D11.out)) ho12 (fun k hk => HEF.out k hk)
            have hR12 := Rules.only (HR.out.up (up2 (up2 B1.out B5.out) D11.out)) ho12 (fun k hk => HEF.out k hk)
            have hrs12 := HRS.out.sameS ho12.size (fun g o z e hg => by
              subst e
              exact ho12.block g hg (fun q => by have h1 := OWN.out.base (g := g) rfl; have h2 := HD10.out; omega))
            have hG1 : ∀ g ∈ T1.G, g.length ≤ 1000000 := fun g hg => HGG.out g (by rw [hT1, erF_G] at hg; exact hg)
            have hedf : edF N (grow (fun k => w1.heap.size ≤ k ∧ k < w5.heap.size) w11.heap.size) := HEF.out.grow (by have h1 := HN.out; have h2 := (up2 (up2 B1.out B5.out) D11.out).size; omega)
            have hpas := Paste_ok (c := cp) hT12 hR12 hp12 hedf (P0 + left) hat (by omega : 1 ≤ 8) (by omega) (by have := HRL.out; omega) (by have h1 := HBD1.out; have h2 := HRL.out; omega) hG1 hrs12 (fun z hz => by have := HBE.out.sm z hz; omega) (fun g o z e hg hq => by
              subst e
              have h1 := OWN.out.base (g := g) rfl
              have h2 := OWN.out.lt (g := g) rfl
              have h3 := HD10.out
              rcases hq with q | q <;> omega) (by rw [hcl]; have := HBND.out; omega)
            rw [hcl] at hpas
            unfold PasteQ at hpas
            rw [HBE.out.bad, if_pos (⟨rfl, hpa⟩ : false = false ∧ (pasteF 8 left T1 (P0 + left) ss).1 = 0), hpa, ht2] at hpas
            simp only [Bool.false_eq_true, if_false] at hpas
            rw [← HM.out] at hpas
            have HPAS := Lib.hid hpas
            have s7 : IntKind.i64.wrap ((P0 : Int) + (left : Int)) = ((P0 + left : Nat) : Int) := by have := HBND.out; rw [IntWalk.i64_in _ (by omega)]; omega
            have HO12 := Lib.hid ho12
            clear hE0 hat hcl hpa ht2 hT12 hR12 hrs12 hG1 hedf hpas ho12 hp12 hT1 HER
            go_wp2_with fail
            refine HPAS.out.mono ?_
            rintro e w13 ⟨rfl, ho13, hp13⟩
            have O13 := Lib.hid ho13
            have P13 := Lib.hid hp13
            have HAL := fun w' (hb : Below w13.heap.size w13 w') => Lib.hid (pAll (hp13.up hb))
            clear ho13 hp13 HPAS s7
            obtain ⟨X, hX⟩ : ∃ X, X = encS T2.cs := ⟨_, rfl⟩
            rw [← hX] at HAL
            have hXs : X.size ≤ 300000 := by have h1 := encS_le T2.cs; have h2 := P13.out.le; rw [hX]; omega
            have hbr := HBE.out.bare
            have hse : encS T.cs = s := by rw [O6.out.cs, HCS.out]; exact encS_chrs HV.out
            rw [← hX, hse] at hbr
            have K1 := Lib.hid (fun w => bare_ok X hXs w)
            have K2 := Lib.hid (fun w => bare_ok s (by have := H80.out; omega) w)
            rw [hbr] at K1
            obtain ⟨Z, hZ⟩ : ∃ Z, Z = bareB s := ⟨_, rfl⟩
            rw [← hZ] at K1 K2
            have HX := Lib.hid hX
            have HSE := Lib.hid hse
            have g1 : (Z.toList == Z.toList) = true := by simp
            clear hX hXs hbr hse hZ
            go_wp2_with fail
            refine (HAL w13 (Below.refl _ _)).out.mono ?_
            rintro e w14 ⟨rfl, hb14⟩
            have D14 := Lib.hid hb14
            clear hb14
            go_wp2_with fail
            refine (K1.out w14).mono ?_
            rintro e w15 ⟨rfl, rfl⟩
            go_wp2_with fail
            refine (K2.out w14).mono ?_
            rintro e w15 ⟨rfl, rfl⟩
            by_cases hXS : X = s
            · have g2 : (X.toList == s.toList) = true := by rw [hXS]; simp
              have g3 : (X.toList = s.toList) = True := eq_true (by rw [hXS])
              have HXS := Lib.hid hXS
              clear hXS K1 K2
              go_wp2_with fail
              refine (HAL w14 D14.out).out.mono ?_
              rintro e w15 ⟨rfl, hb15⟩
              have D15 := Lib.hid (up2 D14.out hb15)
              clear hb15
              go_wp2_with fail
              go_ret
              exact ⟨rfl, FIN.out w11 w12 w13 w15 D11.out HO12.out O13.out D15.out⟩
            · have hne : ¬ X.toList = s.toList := fun e => hXS (bytes_ext (by rw [← ba_list, ← ba_list, e]))
              have g2 : (X.toList == s.toList) = false := by simpa using hne
              have g3 : (X.toList = s.toList) = False := eq_false hne
              have HXS := Lib.hid hXS
              have g4 : (s.toList == s.toList) = true := by simp
              clear hXS hne K1 K2
              go_wp2_with fail
              refine (HAL w14 D14.out).out.mono ?_
              rintro e w15 ⟨rfl, hb15⟩
              have D15 := Lib.hid (up2 D14.out hb15)
              clear hb15
              go_wp2_with fail
              have hst : St N w w.heap.size b w15 T2 (5 + R.length * (T.cs.length + 4) + k * 12) := ⟨FIN.out w11 w12 w13 w15 D11.out HO12.out O13.out D15.out, (P13.out.up D15.out).mono (fun k hk => SUB.out w11 w12 k D11.out HO12.out hk) (Nat.le_refl _), (FIN.out w11 w12 w13 w15 D11.out HO12.out O13.out D15.out).size⟩
              have hkp := HBE.out.kp
              have hon : ¬ T2.O = [] := fun h0 => HXS.out (by
                have h1 := hkp.grp.bk
                rw [h0] at h1
                rw [HX.out, ← HSE.out]
                exact congrArg encS h1)
              have hub := undo_back (G := T.G) (g := T2.O) (cs := T.cs) hst HN.out (Nat.le_refl _) HT.out HR.out (by have h1 := HBD1.out; have h2 := HM1.out; omega) (by unfold logShut; rw [if_neg hon, hkp.g]) (fun x hx => by have := O6.out.g x hx; omega) (by
                obtain ⟨_, _, _, _, _, _, _, _, hd⟩ := P13.out
                have h0 := hd.o
                have h1 := HBD1.out; have h2 := HM1.out; omega) hkp.ch hkp.wide.ro hkp.grp.ok hkp.grp.bk (by have := hkp.grp.co; omega)
              have HUB := Lib.hid hub
              clear hst hkp hon hub
              refine HUB.out.mono ?_
              rintro e w16 ⟨rfl, T3, hT3, hst3⟩
              have HALL3 := Lib.hid (pAll hst3.pb)
              have ST3 := Lib.hid hst3
              have HT3 := Lib.hid hT3
              clear hst3 hT3 HUB
              rw [HT3.out, HSE.out] at HALL3
              go_wp2_with fail
              refine HALL3.out.mono ?_
              rintro e w17 ⟨rfl, hb17⟩
              have S17 := Lib.hid (ST3.out.up hb17)
              clear hb17
              go_wp2_with fail
              go_ret
              exact ⟨rfl, S17.out.bl⟩
      · by_cases h9 : 10000 < s.size
        · have e8 : decide ((80 : Int) < (s.size : Int)) = true := decide_eq_true (by omega)
          have e9 : (80 < s.size) = True := eq_true (by omega)
          have hcall := of25_any (HT.out.up B1.out) (HR.out.up B1.out) hN1 s hss HV.out h9
          have HCA := Lib.hid hcall
          clear hcall hN1 hss h80 h9
          go_wp2_with fail
          refine HCA.out.mono ?_
          rintro e w5 ⟨b, bl, rfl, hb5⟩
          have B5 := Lib.hid (up2 B1.out hb5)
          clear hb5
          go_wp2_with fail
          go_ret
          exact ⟨rfl, B5.out⟩
        · have e8 : decide ((80 : Int) < (s.size : Int)) = true := decide_eq_true (by omega)
          have e9 : (80 < s.size) = True := eq_true (by omega)
          have hcall := of25_ok (HT.out.up B1.out) (HR.out.up B1.out) hN1 s (by omega) HV.out
          have HCA := Lib.hid hcall
          clear hcall hN1 hss h80 h9
          go_wp2_with fail
          refine HCA.out.mono ?_
          rintro e w5 ⟨b, T, rfl, hb5, hp5, hT5⟩
          have B5 := Lib.hid (up2 B1.out hb5)
          clear hb5 hp5 hT5
          go_wp2_with fail
          go_ret
          exact ⟨rfl, B5.out⟩
end
end Go.Proofs.YtnbccoelbfgmgaaGreatDoor
