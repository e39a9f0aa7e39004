import Derived.Test.YtcfdalmllegefaaGreatDoorZ21
import Derived.Test.YtcfdalmllegefaaGreatDoorZ18
import Derived.Test.YtcfdalmllegefaaGreatDoorZ11
import Derived.Test.YtcfdalmllegefaaGreatDoorZ17
import Derived.Test.YtcfdalmllegefaaGreatDoorZ10
import Derived.Test.YtcfdalmllegefaaGreatDoorZ20
/- package column: Lisp, at any text. -/
namespace Go.Proofs.YtcfdalmllegefaaGreatDoor
open Go.RowKit Go.Lib
set_option linter.unusedVariables false
set_option linter.unusedSimpArgs false
theorem fs_empty {s : ByteArray} (h : s.toList = []) : s = ⟨#[]⟩ := bytes_ext (by rw [ByteArray.toList_eq] at h; rw [h])
theorem encS_nonempty {L : List Nat} (hL : ∀ c ∈ L, isN c) (h : L ≠ []) : (encS L).toList ≠ [] := fun e => h (by
  have e1 := fs_empty e
  have e2 : encS L = encS [] := e1
  have := congrArg chrs e2
  rwa [(chrs_encS hL).1, (chrs_encS (cs := []) (by simp)).1] at this)
section
variable {w w' : World} {N b tb bs ms mo : Nat} {F : Nat → Prop} {T : Tx} {B : Nat}
set_option maxRecDepth 100000 in
set_option maxHeartbeats 16000000 in
theorem lispX (hT : Tabs N w) (hL : LspT w tb bs ms mo) (h : PB N w b F T B) (k tab : Nat) (ht1 : 1 ≤ tab) (ht2 : tab ≤ 64) (h2 : T.S.lo ≤ k) (h3 : k ≤ T.S.hi) (hsz : (encS (subL T.cs T.S.lo (lineB T.cs T.S.lo k))).size ≤ 190) :
    Calls Tryz.prog 13 #[pAt b, pAt tb, .int .i64 k, .int .i64 tab] w fun e w' => e = .returned (.tuple #[.int .i64 (lispV T.cs T.S.lo T.S.hi tab k : Nat), .int .i64 0]) ∧ Below w.heap.size w w' := by
  have hr := h.r
  have hcn := h.cn
  have hl := hr.len
  have tx : ∀ w', Below w.heap.size w w' → ∀ x y : Nat, T.S.lo ≤ x → x ≤ y → y ≤ T.S.hi → Calls Tryz.prog 53 #[pAt b, .int .i64 x, .int .i64 y] w' fun e w'' => e = .returned (.tuple #[.string (encS (subL T.cs x y)), .int .i64 0]) ∧ Below w'.heap.size w' w'' := fun w' hb x y g1 g2 g3 => by
    have q := pText (h.up hb) (x : Int) (y : Int)
    have hre : reachB T.S (x : Int) (y : Int) = true := reach_iff.2 (by omega)
    rw [show textV T (x : Int) (y : Int) = encS (subL T.cs x y) by unfold textV; rw [if_pos hre]; rfl, show delE T (x : Int) (y : Int) = 0 by unfold delE; rw [if_pos hre]] at q
    exact q
  generalize T.S.lo = lo at *
  generalize T.S.hi = hi at *
  generalize T.S.pt = pt at *
  generalize T.cs = cs at *
  clear h
  -- the numbers
  obtain ⟨x, hx⟩ : ∃ x, x = lineB cs lo k := ⟨_, rfl⟩
  obtain ⟨tt, htt⟩ : ∃ tt, tt = encS (subL cs lo x) := ⟨_, rfl⟩
  obtain ⟨m, hm⟩ : ∃ m, m = x - lo := ⟨_, rfl⟩
  obtain ⟨S, hS⟩ : ∃ S, S = ovF (subL cs lo x) m := ⟨_, rfl⟩
  obtain ⟨R, hR⟩ : ∃ R, R = lispV cs lo hi tab k := ⟨_, rfl⟩
  rw [← hR]
  have hx1 : lo ≤ x := by rw [hx]; exact lineB_ge k
  have hx2 : x ≤ k := by rw [hx]; exact lineB_le k h2
  rw [← hx, ← htt] at hsz
  have hsl : (subL cs lo x).length = m := by rw [subL_len hl.2.1 (by omega), hm]
  have hsn := subL_isN hcn lo x
  have htc : chrs tt = subL cs lo x := by rw [htt]; exact (chrs_encS hsn).1
  have htv : (charsD tt.data.toList).isSome = true := by rw [htt]; exact (chrs_encS hsn).2
  have hop : (∀ q ∈ S.op, q < m ∧ lispC ((subL cs lo x).getD q 0) = 4) ∧ S.op.length ≤ m := by
    rw [hS]; exact ⟨ovF_op (subL cs lo x) m, (ovF_bd (subL cs lo x) m).1⟩
  obtain ⟨y, hy⟩ : ∃ y, y = indN cs x (lineE cs hi k) := ⟨_, rfl⟩
  have he1 : k ≤ lineE cs hi k := lineE_ge k
  have he2 : lineE cs hi k ≤ hi := lineE_le k h3
  have hyy := indN_is cs (b := x) (e := lineE cs hi k) (by omega)
  rw [← hy] at hyy
  unfold lispV at hR
  rw [← hx, ← hm, ← hS, ← hy] at hR
  -- the calls
  have bg : ∀ w', Below w.heap.size w w' → Calls Tryz.prog 55 #[vwV b lo hi tab, .int .i64 k] w' fun e w'' => e = .returned (.int .i64 x) ∧ Below w'.heap.size w' w'' := fun w' hb => by
    have q := vbegin (hr.up hb) tab k hl.2.1 h2 h3; rw [← hx] at q; exact q
  have ind : ∀ w', Below w.heap.size w w' → Calls Tryz.prog 56 #[vwV b lo hi tab, .int .i64 k] w' fun e w'' => e = .returned (.int .i64 y) ∧ Below w'.heap.size w' w'' := fun w' hb => by
    have q := vindent (hr.up hb) tab k h2 h3; rw [← hx, ← hy] at q; exact q
  have en : ∀ w', Below w.heap.size w w' → ∀ p : Nat, lo ≤ p → p ≤ hi → Calls Tryz.prog 61 #[vwV b lo hi tab, .int .i64 p] w' fun e w'' => e = .returned (.int .i64 (lineE cs hi p)) ∧ Below w'.heap.size w' w'' := fun w' hb p g1 g2 => vend (hr.up hb) tab p (by omega) g2
  have co : ∀ w', Below w.heap.size w w' → ∀ p : Nat, lo ≤ p → p ≤ hi → Calls Tryz.prog 57 #[vwV b lo hi tab, .int .i64 p] w' fun e w'' => e = .returned (.int .i64 (colN widN cs tab (lineB cs lo p) p)) ∧ Below w'.heap.size w' w'' := fun w' hb p g1 g2 => vcolumn (hr.up hb) tab p ht1 ht2 g1 g2
  have t1 : ∀ w', Below w.heap.size w w' → Calls Tryz.prog 53 #[pAt b, .int .i64 lo, .int .i64 x] w' fun e w'' => e = .returned (.tuple #[.string tt, .int .i64 0]) ∧ Below w'.heap.size w' w'' := fun w' hb => by
    have q := tx w' hb lo x (Nat.le_refl _) hx1 (by omega); rw [← htt] at q; exact q
  have ch : ∀ w', Below w.heap.size w w' → ∀ i : Nat, lo ≤ i → i < hi → Calls Tryz.prog 62 #[pAt b, .int .i64 i] w' fun e w'' => e = .returned (.tuple #[.int .i64 (chr cs i : Nat), .bool true]) ∧ Below w'.heap.size w' w'' := fun w' hb i g1 g2 => bchar (hr.up hb) i (by omega) (by omega)
  have cl : ∀ w', Below w.heap.size w w' → ∀ i : Nat, lo ≤ i → i < hi → Calls Tryz.prog 63 #[pAt tb, .int .i64 (chr cs i : Nat)] w' fun e w'' => e = .returned (.int .i64 (lispC (chr cs i))) ∧ Below w'.heap.size w' w'' := fun w' hb i g1 g2 => class_ok (hL.up hb) _ (chr_isN hr i (by omega) (by omega))
  have lk : ∀ w' gg, Below w.heap.size w w' → w'.cell? ⟨gg, 0, none⟩ = some (.int .i64 k) → Calls Tryz.prog 44 #[pAt b, .int .i64 tab, .bool true, .slice (some ⟨gg, 0, none⟩) 1 1] w' fun e w'' => e = .returned (.tuple #[vwV b lo hi tab, .int .i64 0]) ∧ Below w'.heap.size w' w'' := fun w' gg hb hx => look_ok (hr.up hb) tab k gg 1 hx h2 h3
  have rl : ∀ w', Below w.heap.size w w' → Calls Tryz.prog 52 #[.string tt] w' fun e w'' => e = .returned (.int .i64 m) ∧ Below w'.heap.size w' w'' := fun w' hb => by
    have q := runesLen tt w' (by omega) (hT.up hb); rw [rlenG_chars htv, htc, hsl] at q; exact q
  have ov : ∀ w', Below w.heap.size w w' → Calls Tryz.prog 60 #[pAt tb, .string tt, .int .i64 0, .int .i64 m, .agg (stC (.slice none 0 0) 0 0 0 false false)] w' fun e w'' => ∃ A cap, e = .returned (.tuple #[.agg (stC (.slice A S.op.length cap) S.un S.inn S.st S.co S.qu), .int .i64 0]) ∧ RSl encI w'' A (S.op.map Int.ofNat) ∧ Below w'.heap.size w' w'' := fun w' hb => by
    have q := over_ok (hT.up hb) (hL.up hb) tt hsz htv m (by rw [htc, hsl]; exact Nat.le_refl _)
    rw [htc, ← hS] at q
    refine q.mono ?_
    rintro e w'' ⟨v, rfl, hown, hb'⟩
    obtain ⟨A, cap, rfl, _, _, hRS⟩ := hown.shape eltI
    exact ⟨A, cap, by rw [List.length_map], hRS, hb'⟩
  have HTX := Lib.hid tx
  have BG := Lib.hid bg
  have ID := Lib.hid ind
  have EN := Lib.hid en
  have CO := Lib.hid co
  have T1 := Lib.hid t1
  have CH := Lib.hid ch
  have CL := Lib.hid cl
  have LK := Lib.hid lk
  have OV := Lib.hid ov
  have RL := Lib.hid rl
  have HL := Lib.hid hL
  have HR := Lib.hid hR
  have HOP := Lib.hid hop
  have HYY := Lib.hid (show lo ≤ y ∧ y ≤ hi by omega)
  have HG := Lib.hid (show 1 ≤ lo ∧ lo ≤ x ∧ x ≤ hi ∧ hi ≤ cs.length + 1 ∧ cs.length ≤ 1000000 ∧ m = x - lo ∧ lo ≤ k ∧ k ≤ hi by omega)
  have HCN := Lib.hid hcn
  have HX := Lib.hid (⟨hx, hsl⟩ : _ ∧ _)
  have HTB := Lib.hid (⟨ht1, ht2⟩ : _ ∧ _)
  clear tx bg ind en co t1 ch cl lk ov rl hL hR hop hr hT hx htt hm hS hx1 hx2 hsl hsn htc htv hy he1 he2 hyy hl h2 h3 hcn hsz ht1 ht2
  go_enter Tryz.func13, Tryz.ntmps13
  go_wp2_with fail
  refine (tcopy_ok HL.out).mono ?_
  rintro e w1 ⟨kk, rfl, hb1⟩
  have B1 := Lib.hid hb1
  clear hb1
  go_wp2_with fail
  refine (tabbed_ok tab HTB.out.1 HTB.out.2 w1).mono ?_
  rintro e w2 ⟨rfl, rfl⟩
  go_wp2_with fail
  have HB0 := Lib.hid (up2 B1.out (below1 w1 (.cells #[.int .i64 k] 3)))
  have hc := (MapKept.heap_alloc w1 (.cells #[.int .i64 k] 3)).1
  generalize w1.alloc (.cells #[.int .i64 k] 3) = W at *
  refine (LK.out W _ HB0.out (by simp only [World.cell?, hc]; rfl)).mono ?_
  rintro e w2 ⟨rfl, hb2⟩
  have B2 := Lib.hid (up2 HB0.out hb2)
  clear hb2 hc HB0
  go_wp2_with fail
  have hB3 := below1 w2 (.cells #[.pointer (some ⟨b, 0, none⟩), .int .i64 lo, .int .i64 hi, .int .i64 tab] 71)
  have hv := VwI.made w2 b lo hi tab (T := 71)
  have B3 := Lib.hid (up2 B2.out hB3)
  have hvk : w2.heap.size < (w2.alloc (.cells #[.pointer (some ⟨b, 0, none⟩), .int .i64 lo, .int .i64 hi, .int .i64 tab] 71)).heap.size := by simp
  generalize w2.alloc (.cells #[.pointer (some ⟨b, 0, none⟩), .int .i64 lo, .int .i64 hi, .int .i64 tab] 71) = W3 at *
  clear hB3
  have HV := Lib.hid hv
  have v0 : ∀ (x : UpW W3.heap.size W3), x.w.cell? ⟨w2.heap.size, 0, none⟩ = some (.pointer (some ⟨b, 0, none⟩)) := fun (x : UpW W3.heap.size W3) => (hv.up x.up).c0
  have v1 : ∀ (x : UpW W3.heap.size W3), x.w.cell? ⟨w2.heap.size, 1, none⟩ = some (.int .i64 lo) := fun x => (hv.up x.up).c1
  have v2 : ∀ (x : UpW W3.heap.size W3), x.w.cell? ⟨w2.heap.size, 2, none⟩ = some (.int .i64 hi) := fun x => (hv.up x.up).c2
  have v3 : ∀ (x : UpW W3.heap.size W3), x.w.cell? ⟨w2.heap.size, 3, none⟩ = some (.int .i64 tab) := fun x => (hv.up x.up).c3
  clear hv
  refine wp_region_up W3.heap.size (by kernel_rfl) (by kernel_rfl) ?_
  repeat (go_big_quiet_step (first | exact Calls.up ‹_› (Nat.le_refl _) (BG.out _ (up2 B3.out (UpW.up ‹_›))) | exact Calls.up ‹_› (Nat.le_refl _) (T1.out _ (up2 B3.out (UpW.up ‹_›)))))
  refine wpQuiet_nil ?_
  rintro ⟨w4, hb4⟩
  dsimp only
  clear v0 v1 v2 v3
  have B4 := Lib.hid (up2 B3.out hb4)
  have V4 := Lib.hid (HV.out.up hb4)
  clear HV hb4
  go_wp2_with fail
  refine (RL.out w4 B4.out).mono ?_
  rintro e w5 ⟨rfl, hb5⟩
  have B5 := Lib.hid (up2 B4.out hb5)
  have V5 := Lib.hid (V4.out.up hb5)
  clear hb5 V4 B4
  go_wp2_with fail
  refine (OV.out w5 B5.out).mono ?_
  rintro e w6 ⟨A, cap, rfl, hA, hb6⟩
  have HA := Lib.hid hA
  have B6 := Lib.hid (up2 B5.out hb6)
  have V6 := Lib.hid (V5.out.up hb6)
  clear hb6 V5 B5 hA
  obtain ⟨ln, hln⟩ : ∃ ln, ln = S.op.length := ⟨_, rfl⟩
  rw [← hln]
  have HLN := Lib.hid hln
  clear hln
  obtain ⟨inn, hin⟩ : ∃ inn, inn = S.inn := ⟨_, rfl⟩
  rw [← hin]
  have HIN := Lib.hid hin
  clear hin
  generalize S.un = un
  generalize S.st = st
  generalize S.co = co
  generalize S.qu = qu
  by_cases h0 : inn = 0
  · have hR2 := HR.out
    rw [if_neg (by rw [← HIN.out, h0]; omega)] at hR2
    have dn : ((inn : Int) != 0) = false := by rw [h0]; rfl
    have d0 : ((inn : Int) == 0) = true := by rw [h0]; rfl
    have dt : ((inn : Int) = 0) = True := eq_true (by omega)
    by_cases h1 : ln = 0
    · rw [if_pos (List.eq_nil_of_length_eq_zero (by rw [← HLN.out, h1]))] at hR2
      subst h1 hR2
      clear h0
      go_wp2_with fail
      go_ret2
      exact ⟨rfl, up2 B6.out (below1 _ _)⟩
    · have hne : ¬ S.op = [] := fun e => h1 (by rw [HLN.out, e]; rfl)
      rw [if_neg hne] at hR2
      obtain ⟨q, hq⟩ : ∃ q, q = S.op.getLastD 0 := ⟨_, rfl⟩
      rw [← hq] at hR2
      obtain ⟨mm, hmm⟩ : ∃ mm, mm = ln - 1 := ⟨_, rfl⟩
      have hqx : S.op[mm]? = some q := by
        rw [hq, List.getLastD_eq_getLast?, List.getLast?_eq_getElem?, hmm, ← HLN.out]
        rw [List.getElem?_eq_getElem (by have := HLN.out; omega)]; rfl
      have hqm := HOP.out.1 q (List.mem_of_getElem? hqx)
      have hgg := HG.out
      obtain ⟨gA, oA, rfl, hgA, hat⟩ := HA.out.at_ eltI (show (S.op.map Int.ofNat)[mm]? = some (q : Int) by rw [List.getElem?_map, hqx]; rfl)
      have x5 := hat 0 _ rfl
      rw [Nat.mul_one, Nat.add_zero] at x5
      obtain ⟨p, hp⟩ : ∃ p, p = lo + q := ⟨_, rfl⟩
      rw [← hp] at hR2
      obtain ⟨P1, hP1⟩ : ∃ P1, P1 = p + 1 := ⟨_, rfl⟩
      obtain ⟨E, hE⟩ : ∃ E, E = lineE cs hi p := ⟨_, rfl⟩
      obtain ⟨C, hC⟩ : ∃ C, C = colN widN cs tab (lineB cs lo p) p := ⟨_, rfl⟩
      have hqb : q < m := hqm.1
      have hlb : ln ≤ m := by rw [HLN.out]; exact HOP.out.2
      have hE1 : p ≤ E := by rw [hE]; exact lineE_ge p
      have hE2 : E ≤ hi := by rw [hE]; exact lineE_le p (by omega)
      obtain ⟨Wd, hWd⟩ : ∃ Wd, Wd = wordAt cs E p := ⟨_, rfl⟩
      have hwd := wordF_is cs (E - (p + 1)) (p + 1)
      rw [show wordF cs (E - (p + 1)) (p + 1) = Wd from hWd.symm] at hwd
      obtain ⟨J, hJ⟩ : ∃ J, J = formAt cs E p := ⟨_, rfl⟩
      have hjj := indF_is cs (E - Wd) Wd
      rw [show indF cs (E - Wd) Wd = J by rw [hJ, hWd]; rfl] at hjj
      obtain ⟨fs, hfs⟩ : ∃ fs, fs = encS (subL cs P1 Wd) := ⟨_, rfl⟩
      obtain ⟨CJ, hCJ⟩ : ∃ CJ, CJ = colN widN cs tab (lineB cs lo J) J := ⟨_, rfl⟩
      unfold openV at hR2
      rw [← hE, ← hWd, ← hJ, ← hP1, ← hC, ← hCJ, ← hfs] at hR2
      have s1 : IntKind.i64.wrap ((ln : Int) - 1) = (mm : Int) := by rw [IntWalk.i64_in _ (by omega)]; omega
      have s2 : IntKind.i64.wrap ((lo : Int) + (q : Int)) = (p : Int) := by rw [IntWalk.i64_in _ (by omega)]; omega
      have s3 : IntKind.i64.wrap ((p : Int) + 1) = (P1 : Int) := by rw [IntWalk.i64_in _ (by omega)]; omega
      have hCb : C ≤ 64 * 1000001 := by
        rw [hC]; have := colN_cap (cs := cs) widN_le HTB.out.2 (lineB cs lo p) p (lineB_le p (by omega)); omega
      have s4 : IntKind.i64.wrap ((C : Int) + 1) = ((C + 1 : Nat) : Int) := by rw [IntWalk.i64_in _ (by omega)]; omega
      have s5 : IntKind.i64.wrap ((C : Int) + 2) = ((C + 2 : Nat) : Int) := by rw [IntWalk.i64_in _ (by omega)]; omega
      have cop : ∀ w', Below w.heap.size w w' → Calls Tryz.prog 57 #[vwV b lo hi tab, .int .i64 p] w' fun e w'' => e = .returned (.int .i64 C) ∧ Below w'.heap.size w' w'' := fun w' hb => by
        have q := CO.out w' hb p (by omega) (by omega); rw [← hC] at q; exact q
      have enp : ∀ w', Below w.heap.size w w' → Calls Tryz.prog 61 #[vwV b lo hi tab, .int .i64 p] w' fun e w'' => e = .returned (.int .i64 E) ∧ Below w'.heap.size w' w'' := fun w' hb => by
        have q := EN.out w' hb p (by omega) (by omega); rw [← hE] at q; exact q
      have tfs : ∀ w', Below w.heap.size w w' → Calls Tryz.prog 53 #[pAt b, .int .i64 P1, .int .i64 Wd] w' fun e w'' => e = .returned (.tuple #[.string fs, .int .i64 0]) ∧ Below w'.heap.size w' w'' := fun w' hb => by
        have q := HTX.out w' hb P1 Wd (by omega) (by omega) (by omega); rw [← hfs] at q; exact q
      have hfse : Wd = P1 ∨ ¬ Wd = P1 ∧ fs.toList ≠ [] := by
        by_cases g : Wd = P1
        · exact .inl g
        · refine .inr ⟨g, ?_⟩
          rw [hfs]
          exact encS_nonempty (subL_isN HCN.out P1 Wd) (fun e => by
            have := subL_len (cs := cs) (x := P1) (y := Wd) (by omega) (by omega)
            rw [e] at this; simp at this; omega)
      have hfs0 : Wd = P1 → fs = ⟨#[]⟩ := fun g => by
        rw [hfs, List.eq_nil_of_length_eq_zero (show (subL cs P1 Wd).length = 0 by have := subL_len (cs := cs) (x := P1) (y := Wd) (by omega) (by omega); omega)]; rfl
      have COP := Lib.hid cop
      have ENP := Lib.hid enp
      have TFS := Lib.hid tfs
      have HF := Lib.hid (⟨hfse, hfs0⟩ : _ ∧ _)
      have HW := Lib.hid (show P1 ≤ Wd ∧ (∀ j, P1 ≤ j → j < Wd → lispC (chr cs j) = 1 ∨ lispC (chr cs j) = 2) ∧ (Wd = P1 + (E - P1) ∨ ¬ (lispC (chr cs Wd) = 1 ∨ lispC (chr cs Wd) = 2)) ∧ Wd ≤ P1 + (E - P1) by
        rw [hP1]; exact ⟨hwd.1, hwd.2.2.1, hwd.2.2.2, hwd.2.1⟩)
      have HJ := Lib.hid (⟨hjj, hCJ⟩ : _ ∧ _)
      have HP := Lib.hid (show lo ≤ P1 ∧ P1 ≤ hi ∧ E ≤ hi ∧ (p + 1 ≤ P1 ∧ P1 ≤ p + 1) ∧ hi ≤ 1000001 by omega)
      have HRR := Lib.hid hR2
      have hml : mm < ln := by omega
      have hml2 : (mm : Int) < (ln : Int) := by omega
      clear hqm hgg hat hq hqx hmm hp hP1 hE hC hWd hwd hJ hjj hfs hCJ hR2 cop enp tfs hfse hfs0 hqb hlb hE1 hE2 hCb hne
      have h1' : ((ln : Int) == 0) = false := by rw [beq_eq_false_iff_ne]; omega
      have h1'' : ((ln : Int) = 0) = False := eq_false (by omega)
      go_wp2_with fail
      have hk7 := Blk.made w6 90 (stC (.slice (some ⟨gA, oA, none⟩) ln cap) un 0 st co qu)
      have hB7 := below1 w6 (.cells (stC (.slice (some ⟨gA, oA, none⟩) ln cap) un 0 st co qu) 90)
      have V7 := Lib.hid (V6.out.up hB7)
      have B7 := Lib.hid (up2 B6.out hB7)
      have x7 := cell_up x5 hB7
      clear hB7
      generalize w6.alloc (.cells (stC (.slice (some ⟨gA, oA, none⟩) ln cap) un 0 st co qu) 90) = W7 at *
      have x0 : ∀ X : UpW W7.heap.size W7, X.w.cell? ⟨w6.heap.size, 0, none⟩ = some (.slice (some ⟨gA, oA, none⟩) ln cap) := fun X => (hk7.up X.up).cell (j := 0) rfl
      have x1 : ∀ X : UpW W7.heap.size W7, X.w.cell? ⟨w2.heap.size, 1, none⟩ = some (.int .i64 lo) := fun X => (V7.out.up X.up).c1
      have x2 : ∀ X : UpW W7.heap.size W7, X.w.cell? ⟨gA, oA + mm, none⟩ = some (.int .i64 q) := fun X => cell_up x7 X.up
      refine wp_region_up W7.heap.size (by kernel_rfl) (by kernel_rfl) ?_
      repeat (go_big_quiet_step (fail))
      refine wpQuiet_nil ?_
      rintro ⟨w8, hb8⟩
      dsimp only
      have V8 := Lib.hid (V7.out.up hb8)
      have B8 := Lib.hid (up2 B7.out hb8)
      clear x0 x1 x2 hb8 hk7 V7 V6 B7 B6 hml hml2 h1' h1'' s1 s2 x5 x7
      go_wp2_with fail
      have v0 : ∀ (x : UpW w8.heap.size w8), x.w.cell? ⟨w2.heap.size, 0, none⟩ = some (.pointer (some ⟨b, 0, none⟩)) := fun x => (V8.out.up x.up).c0
      have v1 : ∀ (x : UpW w8.heap.size w8), x.w.cell? ⟨w2.heap.size, 1, none⟩ = some (.int .i64 lo) := fun x => (V8.out.up x.up).c1
      have v2 : ∀ (x : UpW w8.heap.size w8), x.w.cell? ⟨w2.heap.size, 2, none⟩ = some (.int .i64 hi) := fun x => (V8.out.up x.up).c2
      have v3 : ∀ (x : UpW w8.heap.size w8), x.w.cell? ⟨w2.heap.size, 3, none⟩ = some (.int .i64 tab) := fun x => (V8.out.up x.up).c3
      refine wp_region_up w8.heap.size (by kernel_rfl) (by kernel_rfl) ?_
      repeat (go_big_quiet_step (first | exact Calls.up ‹_› (Nat.le_refl _) (COP.out _ (up2 B8.out (UpW.up ‹_›))) | exact Calls.up ‹_› (Nat.le_refl _) (ENP.out _ (up2 B8.out (UpW.up ‹_›)))))
      refine wpQuiet_nil ?_
      rintro ⟨w9, hb9⟩
      dsimp only
      clear v0 v1 v2 v3
      have B9 := Lib.hid (up2 B8.out hb9)
      have V9 := Lib.hid (V8.out.up hb9)
      clear hb9 B8 V8
      go_wp2_with fail
      go_loopw [18, 19, 20, 21] (fun va vb vc vd wr => ∃ i : Nat, P1 ≤ i ∧ i ≤ Wd ∧ va = .int .i64 i ∧ Below w.heap.size w wr ∧ VwI wr w2.heap.size b lo hi tab) (fun va _ _ _ _ => E + 1 - (intOf va).toNat)
      case atStart => exact ⟨P1, Nat.le_refl _, HW.out.1, rfl, B9.out, V9.out⟩
      case round =>
        obtain ⟨i, hi1, hi2, rfl, hbw, hvw⟩ := hrel
        have HBW := Lib.hid hbw
        have VW := Lib.hid hvw
        clear hbw hvw
        have hgp := HP.out
        by_cases hlt : i < E
        · have d1 : decide ((i : Int) < (E : Int)) = true := decide_eq_true (by omega)
          have d2 : ((i : Int) < (E : Int)) = True := eq_true (by omega)
          have s1 : IntKind.i64.wrap ((i : Int) + 1) = ((i + 1 : Nat) : Int) := by rw [IntWalk.i64_in _ (by omega)]; omega
          have hch := CH.out _ HBW.out i (by omega) (by omega)
          have hcl := fun w' (hb : Below w.heap.size w w') => CL.out w' hb i (by omega) (by omega)
          obtain ⟨q2, hq2⟩ : ∃ q2, q2 = lispC (chr cs i) := ⟨_, rfl⟩
          have HQ2 := Lib.hid hq2
          rw [← hq2] at hcl
          clear hq2
          obtain ⟨c, hcc⟩ : ∃ c, c = chr cs i := ⟨_, rfl⟩
          rw [← hcc] at hch hcl
          have HCc := Lib.hid hcc
          clear hcc
          have HCH := Lib.hid hch
          have HCL := Lib.hid hcl
          clear hch hcl
          go_wp2_with fail
          refine HCH.out.mono ?_
          rintro e u1 ⟨rfl, hu1⟩
          have U1 := Lib.hid (up2 HBW.out hu1)
          have VU1 := Lib.hid (VW.out.up hu1)
          clear hu1 HCH
          go_wp2_with fail
          refine (HCL.out _ U1.out).mono ?_
          rintro e u2 ⟨rfl, hu2⟩
          have U2 := Lib.hid (up2 U1.out hu2)
          have VU := Lib.hid (VU1.out.up hu2)
          clear hu2 HCL
          by_cases hqq : q2 = 1 ∨ q2 = 2
          · have hiw : i < Wd := by
              rcases Nat.lt_or_ge i Wd with g | g
              · exact g
              · have e : i = Wd := by omega
                rcases HW.out.2.2.1 with a | a
                · omega
                · rw [← e, ← HQ2.out] at a; exact absurd hqq a
            rcases hqq with g | g
            · have f1 : (q2 != 1) = false := by rw [g]; rfl
              have f2 : (q2 == 1) = true := by rw [g]; rfl
              have f3 : ((q2 : Int) != 1) = false := by rw [g]; rfl
              clear g
              go_wp2_with fail
              go_roundw
              case rel => exact ⟨i + 1, by omega, by omega, by first | rfl | go_num, U2.out, VU.out⟩
              case measure => simp [intOf]; omega
            · have f1 : (q2 != 1) = true := by rw [g]; rfl
              have f2 : (q2 != 2) = false := by rw [g]; rfl
              have f3 : ((q2 : Int) != 1) = true := by rw [g]; rfl
              have f4 : ((q2 : Int) != 2) = false := by rw [g]; rfl
              clear g
              go_wp2_with fail
              go_roundw
              case rel => exact ⟨i + 1, by omega, by omega, by first | rfl | go_num, U2.out, VU.out⟩
              case measure => simp [intOf]; omega
          · have hiw : i = Wd := by
              rcases Nat.lt_or_ge i Wd with g | g
              · exact absurd (by have := HW.out.2.1 i hi1 g; rwa [← HQ2.out] at this) hqq
              · omega
            have d3 : (q2 != 1) = true := bne_iff_ne.2 (fun e => hqq (.inl e))
            have d4 : (q2 != 2) = true := bne_iff_ne.2 (fun e => hqq (.inr e))
            have d3' : ((q2 : Int) != 1) = true := bne_iff_ne.2 (by omega)
            have d4' : ((q2 : Int) != 2) = true := bne_iff_ne.2 (by omega)
            subst hiw
            clear hqq hgp
            go_wp2_with fail
            refine (TFS.out _ U2.out).mono ?_
            rintro e u3 ⟨rfl, hu3⟩
            have U3 := Lib.hid (up2 U2.out hu3)
            have V3 := Lib.hid (VU.out.up hu3)
            clear hu3
            rcases HF.out.1 with hf | ⟨hf, hfn⟩
            · have e3 : fs = ⟨#[]⟩ := HF.out.2 hf
              have hR3 := HRR.out
              rw [if_pos hf] at hR3
              subst e3
              subst hR3
              clear hf
              go_wp2_with fail
              go_ret2
              exact ⟨rfl, U3.out⟩
            · have hR3 := HRR.out
              rw [if_neg hf] at hR3
              have e3 : (fs.toList = []) = False := eq_false hfn
              have e4 : (fs.toList == []) = false := beq_eq_false_iff_ne.2 hfn
              have hcb := cbody_ok fs u3
              clear hf hfn
              cases hbd : bodyB fs with
              | true =>
                rw [hbd, if_pos rfl] at hR3
                rw [hbd] at hcb
                subst hR3
                have HCB := Lib.hid hcb
                clear hcb hbd
                go_wp2_with fail
                refine HCB.out.mono ?_
                rintro e u4 ⟨rfl, rfl⟩
                go_wp2_with fail
                go_ret2
                exact ⟨rfl, U3.out⟩
              | false =>
                rw [hbd, if_neg (by simp)] at hR3
                rw [hbd] at hcb
                have HR3 := Lib.hid hR3
                have HCB := Lib.hid hcb
                clear hcb hbd hR3
                go_wp2_with fail
                refine HCB.out.mono ?_
                rintro e u4 ⟨rfl, rfl⟩
                go_wp2_with fail
                go_loopw [18, 24, 25] (fun va vb vc wr => ∃ j : Nat, i ≤ j ∧ j ≤ J ∧ va = .int .i64 j ∧ Below w.heap.size w wr ∧ VwI wr w2.heap.size b lo hi tab) (fun va _ _ _ => E + 1 - (intOf va).toNat)
                case atStart => exact ⟨i, Nat.le_refl _, HJ.out.1.1, rfl, U3.out, V3.out⟩
                case round =>
                  obtain ⟨j, hj1, hj2, rfl, hbw, hvw⟩ := hrel
                  have HBX := Lib.hid hbw
                  have VX := Lib.hid hvw
                  clear hbw hvw
                  have hjj := HJ.out.1
                  have hwp := HW.out.1
                  have hgq := HP.out
                  by_cases hlt2 : j < E
                  · have d5 : decide ((j : Int) < (E : Int)) = true := decide_eq_true (by omega)
                    have d6 : ((j : Int) < (E : Int)) = True := eq_true (by omega)
                    have s7 : IntKind.i64.wrap ((j : Int) + 1) = ((j + 1 : Nat) : Int) := by rw [IntWalk.i64_in _ (by omega)]; omega
                    have hch := CH.out _ HBX.out j (by omega) (by omega)
                    have hcl := fun w' (hb : Below w.heap.size w w') => CL.out w' hb j (by omega) (by omega)
                    obtain ⟨q3, hq3⟩ : ∃ q3, q3 = lispC (chr cs j) := ⟨_, rfl⟩
                    obtain ⟨c3, hc3⟩ : ∃ c3, c3 = chr cs j := ⟨_, rfl⟩
                    rw [← hq3] at hcl
                    rw [← hc3] at hch hcl
                    have HQ3 := Lib.hid (⟨hq3, hc3⟩ : _ ∧ _)
                    have HCH3 := Lib.hid hch
                    have HCL3 := Lib.hid hcl
                    clear hch hcl hq3 hc3 hjj hwp hgq
                    go_wp2_with fail
                    refine HCH3.out.mono ?_
                    rintro e y1 ⟨rfl, hy1⟩
                    have Y1 := Lib.hid (up2 HBX.out hy1)
                    have VY := Lib.hid (VX.out.up hy1)
                    clear hy1 HCH3
                    have hbk := blank_ok c3 y1
                    by_cases hbl : c3 = 32 ∨ c3 = 9
                    · have hlj : j < J := by
                        rcases Nat.lt_or_ge j J with g | g
                        · exact g
                        · have e : j = J := by omega
                          rcases HJ.out.1.2.2.2 with a | a
                          · omega
                          · rw [← e, ← HQ3.out.2] at a; exact absurd hbl a
                      rw [decide_eq_true hbl] at hbk
                      have HBK := Lib.hid hbk
                      clear hbk hbl
                      go_wp2_with fail
                      refine HBK.out.mono ?_
                      rintro e y2 ⟨rfl, rfl⟩
                      go_wp2_with fail
                      go_roundw
                      case rel => exact ⟨j + 1, by omega, by omega, by first | rfl | go_num, Y1.out, VY.out⟩
                      case measure => simp [intOf]; omega
                    · have hlj : j = J := by
                        rcases Nat.lt_or_ge j J with g | g
                        · exact absurd (by have := HJ.out.1.2.2.1 j hj1 g; rwa [← HQ3.out.2] at this) hbl
                        · omega
                      rw [decide_eq_false hbl] at hbk
                      have HBK := Lib.hid hbk
                      have hR4 := HR3.out
                      have hq4 := HQ3.out.1
                      rw [hlj] at hq4
                      rw [← hq4] at hR4
                      have hg := HG.out
                      have hJE : J < E := by omega
                      have hcj := CO.out
                      have hcoj : ∀ w', Below w.heap.size w w' → Calls Tryz.prog 57 #[vwV b lo hi tab, .int .i64 j] w' fun e w'' => e = .returned (.int .i64 CJ) ∧ Below w'.heap.size w' w'' := fun w' hb => by
                        have q := CO.out w' hb j (by have := HP.out; have := HW.out; omega) (by have := HP.out; omega)
                        rw [hlj, ← HJ.out.2] at q; rw [hlj]; exact q
                      have HCOJ := Lib.hid hcoj
                      clear hbk hbl hcoj hcj hq4 hg
                      by_cases h8 : q3 = 8
                      · rw [if_neg (by rintro ⟨_, g⟩; exact g h8)] at hR4
                        subst hR4
                        have d7 : (q3 == 8) = true := by rw [h8]; rfl
                        have d8 : ((q3 : Int) == 8) = true := by rw [h8]; rfl
                        clear hJE hlj h8
                        go_wp2_with fail
                        refine HBK.out.mono ?_
                        rintro e y2 ⟨rfl, rfl⟩
                        go_wp2_with fail
                        refine (HCL3.out _ Y1.out).mono ?_
                        rintro e y3 ⟨rfl, hy3⟩
                        have Y3 := Lib.hid (up2 Y1.out hy3)
                        clear hy3
                        go_wp2_with fail
                        go_ret2
                        exact ⟨rfl, Y3.out⟩
                      · rw [if_pos ⟨hJE, h8⟩] at hR4
                        subst hR4
                        have d7 : ((q3 : Int) == 8) = false := by rw [beq_eq_false_iff_ne]; omega
                        have d8 : ((q3 : Int) = 8) = False := eq_false (by omega)
                        have d9 : (q3 == 8) = false := beq_eq_false_iff_ne.2 h8
                        clear hJE hlj h8
                        go_wp2_with fail
                        refine HBK.out.mono ?_
                        rintro e y2 ⟨rfl, rfl⟩
                        go_wp2_with fail
                        refine (HCL3.out _ Y1.out).mono ?_
                        rintro e y3 ⟨rfl, hy3⟩
                        have Y3 := Lib.hid (up2 Y1.out hy3)
                        have VZ := VY.out.up hy3
                        have z0 := VZ.c0
                        have z1 := VZ.c1
                        have z2 := VZ.c2
                        have z3 := VZ.c3
                        clear hy3 VZ
                        go_wp2_with fail
                        refine (HCOJ.out _ Y3.out).mono ?_
                        rintro e y4 ⟨rfl, hy4⟩
                        have Y4 := Lib.hid (up2 Y3.out hy4)
                        clear hy4 z0 z1 z2 z3
                        go_wp2_with fail
                        go_ret2
                        exact ⟨rfl, Y4.out⟩
                  · have d5 : decide ((j : Int) < (E : Int)) = false := decide_eq_false (by omega)
                    have d6 : ((j : Int) < (E : Int)) = False := eq_false (by omega)
                    have hR4 := HR3.out
                    rw [if_neg (by rintro ⟨g, _⟩; omega)] at hR4
                    subst hR4
                    clear hjj hwp hgq
                    go_wp2_with fail
                    go_ret2
                    exact ⟨rfl, HBX.out⟩
        · have hiw : i = Wd := by have := HW.out.2.2.2; omega
          have d1 : decide ((i : Int) < (E : Int)) = false := decide_eq_false (by omega)
          have d2 : ((i : Int) < (E : Int)) = False := eq_false (by omega)
          subst hiw
          clear hgp
          go_wp2_with fail
          refine (TFS.out _ HBW.out).mono ?_
          rintro e u3 ⟨rfl, hu3⟩
          have U3 := Lib.hid (up2 HBW.out hu3)
          have V3 := Lib.hid (VW.out.up hu3)
          clear hu3
          rcases HF.out.1 with hf | ⟨hf, hfn⟩
          · have e3 : fs = ⟨#[]⟩ := HF.out.2 hf
            have hR3 := HRR.out
            rw [if_pos hf] at hR3
            subst e3
            subst hR3
            clear hf
            go_wp2_with fail
            go_ret2
            exact ⟨rfl, U3.out⟩
          · have hR3 := HRR.out
            rw [if_neg hf] at hR3
            have e3 : (fs.toList = []) = False := eq_false hfn
            have e4 : (fs.toList == []) = false := beq_eq_false_iff_ne.2 hfn
            have hcb := cbody_ok fs u3
            clear hf hfn
            cases hbd : bodyB fs with
            | true =>
              rw [hbd, if_pos rfl] at hR3
              rw [hbd] at hcb
              subst hR3
              have HCB := Lib.hid hcb
              clear hcb hbd
              go_wp2_with fail
              refine HCB.out.mono ?_
              rintro e u4 ⟨rfl, rfl⟩
              go_wp2_with fail
              go_ret2
              exact ⟨rfl, U3.out⟩
            | false =>
              rw [hbd, if_neg (by simp)] at hR3
              rw [hbd] at hcb
              have HR3 := Lib.hid hR3
              have HCB := Lib.hid hcb
              clear hcb hbd hR3
              go_wp2_with fail
              refine HCB.out.mono ?_
              rintro e u4 ⟨rfl, rfl⟩
              go_wp2_with fail
              go_loopw [18, 24, 25] (fun va vb vc wr => ∃ j : Nat, i ≤ j ∧ j ≤ J ∧ va = .int .i64 j ∧ Below w.heap.size w wr ∧ VwI wr w2.heap.size b lo hi tab) (fun va _ _ _ => E + 1 - (intOf va).toNat)
              case atStart => exact ⟨i, Nat.le_refl _, HJ.out.1.1, rfl, U3.out, V3.out⟩
              case round =>
                obtain ⟨j, hj1, hj2, rfl, hbw, hvw⟩ := hrel
                have HBX := Lib.hid hbw
                have VX := Lib.hid hvw
                clear hbw hvw
                have hjj := HJ.out.1
                have hwp := HW.out.1
                have hgq := HP.out
                by_cases hlt2 : j < E
                · have d5 : decide ((j : Int) < (E : Int)) = true := decide_eq_true (by omega)
                  have d6 : ((j : Int) < (E : Int)) = True := eq_true (by omega)
                  have s7 : IntKind.i64.wrap ((j : Int) + 1) = ((j + 1 : Nat) : Int) := by rw [IntWalk.i64_in _ (by omega)]; omega
                  have hch := CH.out _ HBX.out j (by omega) (by omega)
                  have hcl := fun w' (hb : Below w.heap.size w w') => CL.out w' hb j (by omega) (by omega)
                  obtain ⟨q3, hq3⟩ : ∃ q3, q3 = lispC (chr cs j) := ⟨_, rfl⟩
                  obtain ⟨c3, hc3⟩ : ∃ c3, c3 = chr cs j := ⟨_, rfl⟩
                  rw [← hq3] at hcl
                  rw [← hc3] at hch hcl
                  have HQ3 := Lib.hid (⟨hq3, hc3⟩ : _ ∧ _)
                  have HCH3 := Lib.hid hch
                  have HCL3 := Lib.hid hcl
                  clear hch hcl hq3 hc3 hjj hwp hgq
                  go_wp2_with fail
                  refine HCH3.out.mono ?_
                  rintro e y1 ⟨rfl, hy1⟩
                  have Y1 := Lib.hid (up2 HBX.out hy1)
                  have VY := Lib.hid (VX.out.up hy1)
                  clear hy1 HCH3
                  have hbk := blank_ok c3 y1
                  by_cases hbl : c3 = 32 ∨ c3 = 9
                  · have hlj : j < J := by
                      rcases Nat.lt_or_ge j J with g | g
                      · exact g
                      · have e : j = J := by omega
                        rcases HJ.out.1.2.2.2 with a | a
                        · omega
                        · rw [← e, ← HQ3.out.2] at a; exact absurd hbl a
                    rw [decide_eq_true hbl] at hbk
                    have HBK := Lib.hid hbk
                    clear hbk hbl
                    go_wp2_with fail
                    refine HBK.out.mono ?_
                    rintro e y2 ⟨rfl, rfl⟩
                    go_wp2_with fail
                    go_roundw
                    case rel => exact ⟨j + 1, by omega, by omega, by first | rfl | go_num, Y1.out, VY.out⟩
                    case measure => simp [intOf]; omega
                  · have hlj : j = J := by
                      rcases Nat.lt_or_ge j J with g | g
                      · exact absurd (by have := HJ.out.1.2.2.1 j hj1 g; rwa [← HQ3.out.2] at this) hbl
                      · omega
                    rw [decide_eq_false hbl] at hbk
                    have HBK := Lib.hid hbk
                    have hR4 := HR3.out
                    have hq4 := HQ3.out.1
                    rw [hlj] at hq4
                    rw [← hq4] at hR4
                    have hg := HG.out
                    have hJE : J < E := by omega
                    have hcj := CO.out
                    have hcoj : ∀ w', Below w.heap.size w w' → Calls Tryz.prog 57 #[vwV b lo hi tab, .int .i64 j] w' fun e w'' => e = .returned (.int .i64 CJ) ∧ Below w'.heap.size w' w'' := fun w' hb => by
                      have q := CO.out w' hb j (by have := HP.out; have := HW.out; omega) (by have := HP.out; omega)
                      rw [hlj, ← HJ.out.2] at q; rw [hlj]; exact q
                    have HCOJ := Lib.hid hcoj
                    clear hbk hbl hcoj hcj hq4 hg
                    by_cases h8 : q3 = 8
                    · rw [if_neg (by rintro ⟨_, g⟩; exact g h8)] at hR4
                      subst hR4
                      have d7 : (q3 == 8) = true := by rw [h8]; rfl
                      have d8 : ((q3 : Int) == 8) = true := by rw [h8]; rfl
                      clear hJE hlj h8
                      go_wp2_with fail
                      refine HBK.out.mono ?_
                      rintro e y2 ⟨rfl, rfl⟩
                      go_wp2_with fail
                      refine (HCL3.out _ Y1.out).mono ?_
                      rintro e y3 ⟨rfl, hy3⟩
                      have Y3 := Lib.hid (up2 Y1.out hy3)
                      clear hy3
                      go_wp2_with fail
                      go_ret2
                      exact ⟨rfl, Y3.out⟩
                    · rw [if_pos ⟨hJE, h8⟩] at hR4
                      subst hR4
                      have d7 : ((q3 : Int) == 8) = false := by rw [beq_eq_false_iff_ne]; omega
                      have d8 : ((q3 : Int) = 8) = False := eq_false (by omega)
                      have d9 : (q3 == 8) = false := beq_eq_false_iff_ne.2 h8
                      clear hJE hlj h8
                      go_wp2_with fail
                      refine HBK.out.mono ?_
                      rintro e y2 ⟨rfl, rfl⟩
                      go_wp2_with fail
                      refine (HCL3.out _ Y1.out).mono ?_
                      rintro e y3 ⟨rfl, hy3⟩
                      have Y3 := Lib.hid (up2 Y1.out hy3)
                      have VZ := VY.out.up hy3
                      have z0 := VZ.c0
                      have z1 := VZ.c1
                      have z2 := VZ.c2
                      have z3 := VZ.c3
                      clear hy3 VZ
                      go_wp2_with fail
                      refine (HCOJ.out _ Y3.out).mono ?_
                      rintro e y4 ⟨rfl, hy4⟩
                      have Y4 := Lib.hid (up2 Y3.out hy4)
                      clear hy4 z0 z1 z2 z3
                      go_wp2_with fail
                      go_ret2
                      exact ⟨rfl, Y4.out⟩
                · have d5 : decide ((j : Int) < (E : Int)) = false := decide_eq_false (by omega)
                  have d6 : ((j : Int) < (E : Int)) = False := eq_false (by omega)
                  have hR4 := HR3.out
                  rw [if_neg (by rintro ⟨g, _⟩; omega)] at hR4
                  subst hR4
                  clear hjj hwp hgq
                  go_wp2_with fail
                  go_ret2
                  exact ⟨rfl, HBX.out⟩
  · have hR2 := HR.out
    rw [if_pos (by rw [← HIN.out]; exact h0)] at hR2
    have coy : ∀ w', Below w.heap.size w w' → Calls Tryz.prog 57 #[vwV b lo hi tab, .int .i64 y] w' fun e w'' => e = .returned (.int .i64 R) ∧ Below w'.heap.size w' w'' := fun w' hb => by
      have q := CO.out w' hb y HYY.out.1 HYY.out.2; rw [← hR2] at q; exact q
    have COY := Lib.hid coy
    have d1 : ((inn : Int) == 0) = false := by rw [beq_eq_false_iff_ne]; omega
    have d2 : ((inn : Int) = 0) = False := eq_false (by omega)
    have dn : ((inn : Int) != 0) = true := bne_iff_ne.2 (by omega)
    clear hR2 coy h0
    go_wp2_with fail
    have hk7 := Blk.made w6 90 (stC (.slice A ln cap) un inn st co qu)
    have hB7 := below1 w6 (.cells (stC (.slice A ln cap) un inn st co qu) 90)
    have V7 := Lib.hid (V6.out.up hB7)
    have B7 := Lib.hid (up2 B6.out hB7)
    clear hB7
    generalize w6.alloc (.cells (stC (.slice A ln cap) un inn st co qu) 90) = W7 at *
    have v0 : ∀ (x : UpW W7.heap.size W7), x.w.cell? ⟨w2.heap.size, 0, none⟩ = some (.pointer (some ⟨b, 0, none⟩)) := fun x => (V7.out.up x.up).c0
    have v1 : ∀ (x : UpW W7.heap.size W7), x.w.cell? ⟨w2.heap.size, 1, none⟩ = some (.int .i64 lo) := fun x => (V7.out.up x.up).c1
    have v2 : ∀ (x : UpW W7.heap.size W7), x.w.cell? ⟨w2.heap.size, 2, none⟩ = some (.int .i64 hi) := fun x => (V7.out.up x.up).c2
    have v3 : ∀ (x : UpW W7.heap.size W7), x.w.cell? ⟨w2.heap.size, 3, none⟩ = some (.int .i64 tab) := fun x => (V7.out.up x.up).c3
    refine wp_region_up W7.heap.size (by kernel_rfl) (by kernel_rfl) ?_
    repeat (go_big_quiet_step (first | exact Calls.up ‹_› (Nat.le_refl _) (ID.out _ (up2 B7.out (UpW.up ‹_›))) | exact Calls.up ‹_› (Nat.le_refl _) (COY.out _ (up2 B7.out (UpW.up ‹_›)))))
    refine wpQuiet_nil ?_
    rintro ⟨w8, hb8⟩
    dsimp only
    have B8 := Lib.hid (up2 B7.out hb8)
    clear v0 v1 v2 v3 hb8
    go_wp2_with fail
    go_ret2
    exact ⟨rfl, B8.out⟩
end
end Go.Proofs.YtcfdalmllegefaaGreatDoor
/- package column: what is refused: positions out of reach, widths, columns, no table. -/
namespace Go.Proofs.YtcfdalmllegefaaGreatDoor
open Go.RowKit
set_option linter.unusedVariables false
set_option linter.unusedSimpArgs false
section
variable {w w' : World} {b pt lo hi : Nat} {cs : List Nat}
abbrev vwE : Value := .agg #[.pointer none, .int .i64 0, .int .i64 0, .int .i64 0]
set_option maxHeartbeats 2000000 in
/-- look where the other condition does not hold. -/
theorem look_arg (h : BufR w b cs pt lo hi) (tab : Int) (v : Value) :
    Calls Tryz.prog 44 #[.pointer (some ⟨b, 0, none⟩), .int .i64 tab, .bool false, v] w fun e w' => e = .returned (.tuple #[vwE, .int .i64 2]) ∧ Below w.heap.size w w' := by
  have hl := h.len
  have HH := Lib.hid h
  clear h
  go_enter Tryz.func44, Tryz.ntmps44
  go_wp2_with fail
  have HB0 := Lib.hid (below1 w (.cells #[.pointer none, .int .i64 0, .int .i64 0, .int .i64 0] 71))
  have hblk := (MapKept.heap_alloc w (.cells #[.pointer none, .int .i64 0, .int .i64 0, .int .i64 0] 71)).1
  have hsz : w.heap.size < (w.alloc (.cells #[.pointer none, .int .i64 0, .int .i64 0, .int .i64 0] 71)).heap.size := by simp
  generalize w.alloc (.cells #[.pointer none, .int .i64 0, .int .i64 0, .int .i64 0] 71) = W at *
  have HBf := Lib.hid hblk
  clear hblk
  refine (bpoint (HH.out.up HB0.out)).mono ?_
  rintro e w1 ⟨rfl, rfl⟩
  have d0 : ((pt : Int) == (0 : Int)) = false := by simp; omega
  go_wp2_with fail
  refine (breach (HH.out.up HB0.out)).mono ?_
  rintro e w1 ⟨rfl, hb1⟩
  have hblk := (hb1.block _ hsz).trans HBf.out
  have HB1 := Lib.hid hb1
  have k0 : w1.cell? ⟨w.heap.size, 0, none⟩ = some (.pointer none) := by simp only [World.cell?, hblk]; rfl
  have k1 : w1.cell? ⟨w.heap.size, 1, none⟩ = some (.int .i64 0) := by simp only [World.cell?, hblk]; rfl
  have k2 : w1.cell? ⟨w.heap.size, 2, none⟩ = some (.int .i64 0) := by simp only [World.cell?, hblk]; rfl
  have k3 : w1.cell? ⟨w.heap.size, 3, none⟩ = some (.int .i64 0) := by simp only [World.cell?, hblk]; rfl
  have f0 : w1.frozen? ⟨w.heap.size, 0, none⟩ = false := by simp only [World.frozen?, hblk]; rfl
  have f1 : w1.frozen? ⟨w.heap.size, 1, none⟩ = false := by simp only [World.frozen?, hblk]; rfl
  have f2 : w1.frozen? ⟨w.heap.size, 2, none⟩ = false := by simp only [World.frozen?, hblk]; rfl
  have f3 : w1.frozen? ⟨w.heap.size, 3, none⟩ = false := by simp only [World.frozen?, hblk]; rfl
  clear hb1 HBf d0 hblk
  go_wp2_with fail
  refine bodyPost_ret (v := .tuple #[vwE, .int .i64 2]) (by simp [results, Tryz.f44, go_sem, k0, k1, k2, k3, f0, f1, f2, f3]) rfl ⟨rfl, ?_⟩
  exact ((((up2 HB0.out HB1.out).setCell (Nat.le_refl _) _).setCell (Nat.le_refl _) _).setCell (Nat.le_refl _) _).setCell (Nat.le_refl _) _
set_option maxHeartbeats 2000000 in
/-- look at a position out of reach. -/
theorem look_far (h : BufR w b cs pt lo hi) (tab k : Int) (g cap : Nat) (hx : w.cell? ⟨g, 0, none⟩ = some (.int .i64 k)) (hk : k < lo ∨ (hi : Int) < k) :
    Calls Tryz.prog 44 #[.pointer (some ⟨b, 0, none⟩), .int .i64 tab, .bool true, .slice (some ⟨g, 0, none⟩) 1 cap] w fun e w' => e = .returned (.tuple #[vwE, .int .i64 3]) ∧ Below w.heap.size w w' := by
  have hl := h.len
  have HH := Lib.hid h
  have hg := lt_of_cell hx
  clear h
  go_enter Tryz.func44, Tryz.ntmps44
  go_wp2_with fail
  have HB0 := Lib.hid (below1 w (.cells #[.pointer none, .int .i64 0, .int .i64 0, .int .i64 0] 71))
  have hblk := (MapKept.heap_alloc w (.cells #[.pointer none, .int .i64 0, .int .i64 0, .int .i64 0] 71)).1
  have hx2 := (World.cell?_of_block (w := w) (a := ⟨g, 0, none⟩) (HB0.out.block g hg)).trans hx
  have hsz : w.heap.size < (w.alloc (.cells #[.pointer none, .int .i64 0, .int .i64 0, .int .i64 0] 71)).heap.size := by simp
  generalize w.alloc (.cells #[.pointer none, .int .i64 0, .int .i64 0, .int .i64 0] 71) = W at *
  have HBf := Lib.hid hblk
  have HX := Lib.hid hx2
  clear hx hblk hx2
  refine (bpoint (HH.out.up HB0.out)).mono ?_
  rintro e w1 ⟨rfl, rfl⟩
  have d0 : ((pt : Int) == (0 : Int)) = false := by simp; omega
  go_wp2_with fail
  refine (breach (HH.out.up HB0.out)).mono ?_
  rintro e w1 ⟨rfl, hb1⟩
  have hblk := (hb1.block _ hsz).trans HBf.out
  have hx1 := (World.cell?_of_block (w := W) (a := ⟨g, 0, none⟩) (hb1.block g (lt_of_cell HX.out))).trans HX.out
  have HB1 := Lib.hid hb1
  have HK := Lib.hid hblk
  have k0 : w1.cell? ⟨w.heap.size, 0, none⟩ = some (.pointer none) := by simp only [World.cell?, hblk]; rfl
  have k1 : w1.cell? ⟨w.heap.size, 1, none⟩ = some (.int .i64 0) := by simp only [World.cell?, hblk]; rfl
  have k2 : w1.cell? ⟨w.heap.size, 2, none⟩ = some (.int .i64 0) := by simp only [World.cell?, hblk]; rfl
  have k3 : w1.cell? ⟨w.heap.size, 3, none⟩ = some (.int .i64 0) := by simp only [World.cell?, hblk]; rfl
  have f0 : w1.frozen? ⟨w.heap.size, 0, none⟩ = false := by simp only [World.frozen?, hblk]; rfl
  have f1 : w1.frozen? ⟨w.heap.size, 1, none⟩ = false := by simp only [World.frozen?, hblk]; rfl
  have f2 : w1.frozen? ⟨w.heap.size, 2, none⟩ = false := by simp only [World.frozen?, hblk]; rfl
  have f3 : w1.frozen? ⟨w.heap.size, 3, none⟩ = false := by simp only [World.frozen?, hblk]; rfl
  clear hb1 HBf HX d0 hblk
  by_cases hlo : k < lo
  · have d1 : decide ((k : Int) < (lo : Int)) = true := decide_eq_true hlo
    have d2 : (k < (lo : Int)) = True := eq_true hlo
    clear hlo hk
    go_wp2_with fail
    go_loopw [13, 32] (fun va vb wr => w1 = wr ∧ ∃ i : Nat, i = 0 ∧ vb = .int .i64 i) (fun _ vb _ => 2 - (intOf vb).toNat)
    case atStart => exact ⟨rfl, 0, rfl, rfl⟩
    case round =>
      obtain ⟨rfl, i, rfl, rfl⟩ := hrel
      go_wp2_with fail
      refine bodyPost_ret (v := .tuple #[vwE, .int .i64 3]) (by simp [results, Tryz.f44, go_sem, k0, k1, k2, k3, f0, f1, f2, f3]) rfl ⟨rfl, ?_⟩
      exact ((((up2 HB0.out HB1.out).setCell (Nat.le_refl _) _).setCell (Nat.le_refl _) _).setCell (Nat.le_refl _) _).setCell (Nat.le_refl _) _
  · have hhi := hk.resolve_left hlo
    have d1 : decide ((k : Int) < (lo : Int)) = false := decide_eq_false hlo
    have d2 : (k < (lo : Int)) = False := eq_false hlo
    have d3 : decide ((hi : Int) < (k : Int)) = true := decide_eq_true hhi
    have d4 : ((hi : Int) < k) = True := eq_true hhi
    clear hlo hk hhi
    go_wp2_with fail
    go_loopw [13, 32] (fun va vb wr => w1 = wr ∧ ∃ i : Nat, i = 0 ∧ vb = .int .i64 i) (fun _ vb _ => 2 - (intOf vb).toNat)
    case atStart => exact ⟨rfl, 0, rfl, rfl⟩
    case round =>
      obtain ⟨rfl, i, rfl, rfl⟩ := hrel
      go_wp2_with fail
      refine bodyPost_ret (v := .tuple #[vwE, .int .i64 3]) (by simp [results, Tryz.f44, go_sem, k0, k1, k2, k3, f0, f1, f2, f3]) rfl ⟨rfl, ?_⟩
      exact ((((up2 HB0.out HB1.out).setCell (Nat.le_refl _) _).setCell (Nat.le_refl _) _).setCell (Nat.le_refl _) _).setCell (Nat.le_refl _) _
set_option maxHeartbeats 1000000 in
theorem column_arg (h : BufR w b cs pt lo hi) (k tab : Int) (ht : tab < 1 ∨ 64 < tab) : Calls Tryz.prog 16 #[.pointer (some ⟨b, 0, none⟩), .int .i64 k, .int .i64 tab] w fun e w' => e = .returned (.tuple #[.int .i64 0, .int .i64 2]) ∧ Below w.heap.size w w' := by
  have H := Lib.hid h
  have HT := fun w => Lib.hid (tabbed_no tab ht w)
  clear h ht
  go_enter Tryz.func16, Tryz.ntmps16
  go_wp2_with fail
  refine (HT _).out.mono ?_
  rintro e w1 ⟨rfl, rfl⟩
  go_wp2_with fail
  refine (look_arg (H.out.up (below1 _ _)) _ _).mono ?_
  rintro e w1 ⟨rfl, hb1⟩
  have B1 := Lib.hid (up2 (below1 _ _) hb1)
  clear hb1
  go_wp2_with fail
  go_ret2
  exact ⟨rfl, up2 B1.out (below1 _ _)⟩
set_option maxHeartbeats 1000000 in
theorem column_far (h : BufR w b cs pt lo hi) (k : Int) (tab : Nat) (h1 : 1 ≤ tab) (h2 : tab ≤ 64) (hk : k < lo ∨ (hi : Int) < k) : Calls Tryz.prog 16 #[.pointer (some ⟨b, 0, none⟩), .int .i64 k, .int .i64 tab] w fun e w' => e = .returned (.tuple #[.int .i64 0, .int .i64 3]) ∧ Below w.heap.size w w' := by
  have H := Lib.hid h
  have HT := fun w => Lib.hid (tabbed_ok tab h1 h2 w)
  have HK := Lib.hid hk
  clear h h1 h2 hk
  go_enter Tryz.func16, Tryz.ntmps16
  go_wp2_with fail
  refine (HT _).out.mono ?_
  rintro e w1 ⟨rfl, rfl⟩
  go_wp2_with fail
  have hcx := (MapKept.heap_alloc w (.cells #[.int .i64 k] 3)).1
  refine (look_far (H.out.up (below1 w (.cells #[.int .i64 k] 3))) tab k w.heap.size 1 (by simp only [World.cell?, hcx]; rfl) HK.out).mono ?_
  rintro e w1 ⟨rfl, hb1⟩
  have B1 := Lib.hid (up2 (below1 _ _) hb1)
  clear hb1 hcx
  go_wp2_with fail
  go_ret2
  exact ⟨rfl, up2 B1.out (below1 _ _)⟩
set_option maxHeartbeats 1000000 in
theorem seek_arg (h : BufR w b cs pt lo hi) (k c : Int) (tab : Nat) (h1 : 1 ≤ tab) (h2 : tab ≤ 64) (hc : c < 0) : Calls Tryz.prog 15 #[.pointer (some ⟨b, 0, none⟩), .int .i64 k, .int .i64 c, .int .i64 tab] w fun e w' => e = .returned (.tuple #[.int .i64 0, .int .i64 0, .int .i64 2]) ∧ Below w.heap.size w w' := by
  have H := Lib.hid h
  have HT := fun w => Lib.hid (tabbed_ok tab h1 h2 w)
  have d1 : decide ((0 : Int) ≤ c) = false := decide_eq_false (by omega)
  clear h h1 h2 hc
  go_enter Tryz.func15, Tryz.ntmps15
  go_wp2_with fail
  refine (HT _).out.mono ?_
  rintro e w1 ⟨rfl, rfl⟩
  go_wp2_with fail
  refine (look_arg (H.out.up (below1 _ _)) _ _).mono ?_
  rintro e w1 ⟨rfl, hb1⟩
  have B1 := Lib.hid (up2 (below1 _ _) hb1)
  clear hb1
  go_wp2_with fail
  go_ret3
  exact ⟨rfl, up2 B1.out (below1 _ _)⟩
set_option maxHeartbeats 1000000 in
set_option maxRecDepth 100000 in
theorem lisp_none (b : Value) (k tab : Int) (w : World) : Calls Tryz.prog 13 #[b, .pointer none, .int .i64 k, .int .i64 tab] w fun e w' => e = .returned (.tuple #[.int .i64 0, .int .i64 1]) ∧ Below w.heap.size w w' := by
  go_enter Tryz.func13, Tryz.ntmps13
  go_wp2_with fail
  go_ret2
  exact ⟨rfl, Below.refl _ _⟩
end
end Go.Proofs.YtcfdalmllegefaaGreatDoor
/- ColumnNames, in plain Lean: the examples reckoned. -/
namespace Go.Proofs.YtcfdalmllegefaaGreatDoor
open Go.RowKit Go.Lib
set_option linter.unusedVariables false
set_option linter.unusedSimpArgs false
abbrev nB : List Nat := [97, 98, 10, 99, 100]
abbrev nC : List Nat := [32, 32, 97, 32, 98, 98, 10, 99, 99, 99, 10, 10, 32, 120]
abbrev nD : List Nat := [40, 102, 111, 111, 32, 98, 97, 114, 10, 40, 120, 10, 34, 40, 10]
abbrev nF : List Nat := [32, 32, 97, 32, 98, 98, 10, 32, 32, 99, 99, 99, 10, 10, 32, 120]
abbrev nS : List Nat := [97, 98, 10, 9, 32, 99, 100]
theorem n_fill : fillT widN 6 8 nC = nF := by decide +kernel
theorem n_l1 : linesF nB 1 6 1 2 = (4, 0) := by decide +kernel
theorem n_l2 : linesF nB 1 6 5 2 = (6, 4) := by decide +kernel
theorem n_l3 : bwdN nB 1 1 (lineB nB 1 5) = (1, 0) := by decide +kernel
theorem n_l4 : bwdN nB 1 3 (lineB nB 1 2) = (1, 3) := by decide +kernel
theorem n_ind : lineB nB 1 5 = 4 ∧ indN nB (lineB nB 1 5) (lineE nB 6 5) = 4 := by decide +kernel
theorem n_i1 : lineB nS 1 5 = 4 ∧ lineE nS 8 5 = 8 ∧ indN nS 4 8 = 6 ∧ lineB nS 1 6 = 4 ∧ colN widN nS 8 4 6 = 9 := by decide +kernel
theorem n_li1 : lispV nD 1 16 8 10 = 5 := by decide +kernel
theorem n_li2 : lispV nD 1 16 8 13 = 1 := by decide +kernel
theorem n_it : indC 3 2 true = [9, 32] ∧ indC 9 8 true = [9, 32] := by decide +kernel
end Go.Proofs.YtcfdalmllegefaaGreatDoor
/- Plain buffers side by side: each owns blocks of its own. -/
namespace Go.Proofs.YtcfdalmllegefaaGreatDoor
open Go.RowKit Go.Lib
set_option linter.unusedVariables false
set_option linter.unusedSimpArgs false
/-- A buffer whose blocks lie in F, all of them there. -/
structure Own1 (N : Nat) (B0 : Nat) (w : World) (b : Nat) (F : Nat → Prop) (T : Tx) (B : Nat) : Prop where
  pb : PB N w b F T B
  lo : ∀ k, F k → B0 ≤ k
  hi : ∀ k, F k → k < w.heap.size
section
variable {N B0 b B B' : Nat} {w w' : World} {F G : Nat → Prop} {T T' : Tx}
theorem Own1.up (h : Own1 N B0 w b F T B) (hb : Below w.heap.size w w') : Own1 N B0 w' b F T B := ⟨h.pb.up hb, h.lo, fun k hk => Nat.lt_of_lt_of_le (h.hi k hk) hb.size⟩
/-- Beside a call that turns another one's blocks. -/
theorem Own1.beside (h : Own1 N B0 w b F T B) (ho : Only G w w') (hd : ∀ k, F k → ¬ G k) : Own1 N B0 w' b F T B := ⟨h.pb.only ho hd, h.lo, fun k hk => Nat.lt_of_lt_of_le (h.hi k hk) ho.size⟩
/-- The blocks behind a call that may have grown them. -/
def grown1 (F : Nat → Prop) (n m : Nat) : Nat → Prop := fun k => (F k ∨ n ≤ k) ∧ k < m
theorem Own1.step (h : Own1 N B0 w b F T B) (hB : B0 ≤ w.heap.size) (k : Only F w w' ∧ PB N w' b (grow F w.heap.size) T' B') : Own1 N B0 w' b (grown1 F w.heap.size w'.heap.size) T' B' :=
  ⟨k.2.bound.mono (fun i hi => hi) (Nat.le_refl _), fun i hi => hi.1.elim (h.lo i) (fun e => Nat.le_trans hB e), fun i hi => hi.2⟩
theorem grown_apart {n m : Nat} (hF : ∀ k, F k → ¬ G k) (hG : ∀ k, G k → k < n) : ∀ k, grown1 F n m k → ¬ G k := fun k hk hg => hk.1.elim (fun e => hF k e hg) (fun e => by have := hG k hg; omega)
theorem Own1.below (h : Own1 N B0 w b F T B) {w0 : World} (hb : Below B0 w0 w) (hs : B0 ≤ w.heap.size) (ho : Only F w w') : Below B0 w0 w' := hb.trans (ho.below hs h.lo)
end
end Go.Proofs.YtcfdalmllegefaaGreatDoor
namespace Go.Proofs.YtcfdalmllegefaaGreatDoor
open Go.RowKit Go.Lib
set_option linter.unusedVariables false
/-- Three plain buffers side by side. -/
structure Tri (N : Nat) (w0 : World) (b c d : Nat) (w : World) (F G H : Nat → Prop) (T U V : Tx) (m n : Nat) : Prop where
  bl : Below w0.heap.size w0 w
  sz : w0.heap.size ≤ w.heap.size
  b : Own1 N w0.heap.size w b F T m
  c : Own1 N w0.heap.size w c G U n
  d : Own1 N w0.heap.size w d H V 5
  fg : ∀ k, F k → ¬ G k
  fh : ∀ k, F k → ¬ H k
  gh : ∀ k, G k → ¬ H k
section
variable {N b c d m n m' n' : Nat} {w0 w w' : World} {F G H : Nat → Prop} {T U V T' U' : Tx}
theorem Tri.up (h : Tri N w0 b c d w F G H T U V m n) (hb : Below w.heap.size w w') : Tri N w0 b c d w' F G H T U V m n :=
  ⟨h.bl.trans (hb.mono h.sz), Nat.le_trans h.sz hb.size, h.b.up hb, h.c.up hb, h.d.up hb, h.fg, h.fh, h.gh⟩
theorem Tri.st (h : Tri N w0 b c d w F G H T U V m n) : St N w0 w0.heap.size b w T m := ⟨h.bl, h.b.pb.mono (fun k hk => h.b.lo k hk) (Nat.le_refl _), h.sz⟩
theorem Tri.tabs (h : Tri N w0 b c d w F G H T U V m n) (hN : N ≤ w0.heap.size) (hT : Tabs N w0) : Tabs N w := h.st.tabs hN (Nat.le_refl _) hT
theorem Tri.rules (h : Tri N w0 b c d w F G H T U V m n) (hN : N ≤ w0.heap.size) (hT : Rules N w0) : Rules N w := h.st.rules hN (Nat.le_refl _) hT
theorem Tri.stepB (h : Tri N w0 b c d w F G H T U V m n) (k : Only F w w' ∧ PB N w' b (grow F w.heap.size) T' m') : Tri N w0 b c d w' (grown1 F w.heap.size w'.heap.size) G H T' U V m' n :=
  ⟨h.b.below h.bl h.sz k.1, Nat.le_trans h.sz k.1.size, h.b.step h.sz k, h.c.beside k.1 (fun i hi hf => h.fg i hf hi), h.d.beside k.1 (fun i hi hf => h.fh i hf hi), grown_apart h.fg h.c.hi, grown_apart h.fh h.d.hi, h.gh⟩
theorem Tri.stepC (h : Tri N w0 b c d w F G H T U V m n) (k : Only G w w' ∧ PB N w' c (grow G w.heap.size) U' n') : Tri N w0 b c d w' F (grown1 G w.heap.size w'.heap.size) H T U' V m n' :=
  ⟨h.c.below h.bl h.sz k.1, Nat.le_trans h.sz k.1.size, h.b.beside k.1 h.fg, h.c.step h.sz k, h.d.beside k.1 (fun i hi hf => h.gh i hf hi), fun i hf hg => grown_apart (F := G) (G := F) (fun k h1 h2 => h.fg k h2 h1) h.b.hi i hg hf, h.fh, grown_apart h.gh h.d.hi⟩
end
end Go.Proofs.YtcfdalmllegefaaGreatDoor
