/- copyistlaw25.KillApart: the walk. -/
import Derived.Test.YtaofcnmajicpcaaGreatDoorKaC
namespace Go.Proofs.YtaofcnmajicpcaaGreatDoor
open Go.RowKit
set_option linter.unusedVariables false
set_option linter.unusedSimpArgs false
/-- The two structs that lie in memory. -/
def ElsA (w W0 : World) (ak an : Int) (at_ : ByteArray) (aa : Bool) (ck cc cn xk xn xi : Int) (xt : ByteArray) (u : Value) : Prop := ∀ w1, Below W0.heap.size W0 w1 →
    w1.cell? ⟨w.heap.size, 0, none⟩ = some (.int .i64 ak) ∧ w1.cell? ⟨w.heap.size, 1, none⟩ = some (.int .i64 an) ∧ w1.cell? ⟨w.heap.size, 2, none⟩ = some (.string at_) ∧ w1.cell? ⟨w.heap.size, 3, none⟩ = some (.bool aa) ∧
    w1.cell? ⟨w.heap.size + 1, 0, none⟩ = some (.int .i64 ck) ∧ w1.cell? ⟨w.heap.size + 1, 1, none⟩ = some (.int .i64 cc) ∧ w1.cell? ⟨w.heap.size + 1, 2, none⟩ = some (.int .i64 cn) ∧ w1.cell? ⟨w.heap.size + 1, 3, none⟩ = some (.int .i64 xk) ∧
    w1.cell? ⟨w.heap.size + 1, 4, none⟩ = some (.int .i64 xn) ∧ w1.cell? ⟨w.heap.size + 1, 5, none⟩ = some (.int .i64 xi) ∧ w1.cell? ⟨w.heap.size + 1, 6, none⟩ = some (.string xt) ∧ w1.cell? ⟨w.heap.size + 1, 7, none⟩ = some u
theorem apart_els (w : World) (ak an : Int) (at_ : ByteArray) (aa : Bool) (ck cc cn xk xn xi : Int) (xt : ByteArray) (u : Value) :
    ElsA w ((w.alloc (Obj.cells #[.int .i64 ak, .int .i64 an, .string at_, .bool aa] 25)).alloc (Obj.cells #[.int .i64 ck, .int .i64 cc, .int .i64 cn, .int .i64 xk, .int .i64 xn, .int .i64 xi, .string xt, u] 30)) ak an at_ aa ck cc cn xk xn xi xt u := by
  intro w1 hb
  refine ⟨?_, ?_, ?_, ?_, ?_, ?_, ?_, ?_, ?_, ?_, ?_, ?_⟩
  all_goals
    rw [hb.cell (by simp <;> omega)]
    simp
set_option maxRecDepth 100000 in
set_option maxHeartbeats 8000000 in
theorem apart_good (A1 : Option Addr) (c1 : Nat) (l : List KAct) (A2 : Option Addr) (c2 : Nat) (q : List CallE) (a : KAct) (c : CallE) (w : World) (h1 : RSl encA w A1 l) (hl1 : l.length ≤ 60) (ht1 : ∀ x ∈ l, x.text.size ≤ 40)
    (h2 : RSl encC w A2 q) (hl2 : q.length ≤ 40) (hok : ∀ x ∈ q, CallOk w x) (hta : a.text.size ≤ 40) (hca : CallOk w c) (hT : Tabs w.heap.size w)
    (hlight : ∀ w1, Below w.heap.size w w1 → Calls Tryz.prog 5 #[.slice A1 l.length c1] w1 fun e w' => e = .returned (.bool true) ∧ w1 = w')
    (hlighta : ∀ w1 A, RSl encA w1 A [a] → Calls Tryz.prog 5 #[.slice A 1 1] w1 fun e w' => e = .returned (.bool true) ∧ w1 = w')
    (hfew : ∀ w1, Below w.heap.size w w1 → Calls Tryz.prog 6 #[.slice A2 q.length c2] w1 fun e w' => e = .returned (.bool true) ∧ w1 = w')
    (hfewc : ∀ w1 A, Below w.heap.size w w1 → RSl encC w1 A [c] → Calls Tryz.prog 6 #[.slice A 1 1] w1 fun e w' => e = .returned (.bool true) ∧ w1 = w') :
    Calls Tryz.prog 3 #[.slice A1 l.length c1, .slice A2 q.length c2, .agg #[.int .i64 a.kind, .int .i64 a.n, .string a.text, .bool a.ahead], .agg #[.int .i64 c.kind, .int .i64 c.c, .int .i64 c.n, .int .i64 c.x.kind, .int .i64 c.x.n, .int .i64 c.x.id, .string c.x.text, .slice c.x.A c.x.rows.length c.x.c]] w fun e w' => e = .returned (.bool true) ∧ Below w.heap.size w w' := by
  have HLV := Lib.hid (fun (w1 : World) (hb : Below w.heap.size w w1) => lives_true (hT.up hb) hb.size)
  have H1 := Lib.hid h1
  have H2 := Lib.hid h2
  have HOK := Lib.hid hok
  have HT := Lib.hid hT
  have HCA := Lib.hid hca
  have HLI := Lib.hid hlight
  have HLA := Lib.hid hlighta
  have HFW := Lib.hid hfew
  have HFC := Lib.hid hfewc
  have HT1 := Lib.hid ht1
  have HDN := Lib.hid (fun (w1 : World) => do_nil a w1)
  have HCN := Lib.hid (fun (w1 : World) (hb : Below w.heap.size w w1) => call_nil (w := w1) c (hca.up hb))
  obtain ⟨ak, an, at_, aa⟩ := a
  obtain ⟨ck, cc, cn, ⟨xk, xn, xi, xt, xA, xc, xr⟩⟩ := c
  clear h1 h2 hok hT hca hlight hlighta hfew hfewc ht1
  go_enter Tryz.func3, Tryz.ntmps3
  go_wp2_with fail
  have HBW := Lib.hid (up2 (below1 w (Obj.cells #[.int .i64 ak, .int .i64 an, .string at_, .bool aa] 25)) (below1 _ (Obj.cells #[.int .i64 ck, .int .i64 cc, .int .i64 cn, .int .i64 xk, .int .i64 xn, .int .i64 xi, .string xt, .slice xA xr.length xc] 30)))
  have HSZ := Lib.hid (show ((w.alloc (Obj.cells #[.int .i64 ak, .int .i64 an, .string at_, .bool aa] 25)).alloc (Obj.cells #[.int .i64 ck, .int .i64 cc, .int .i64 cn, .int .i64 xk, .int .i64 xn, .int .i64 xi, .string xt, .slice xA xr.length xc] 30)).heap.size = w.heap.size + 2 by simp)
  have HEL := Lib.hid (apart_els w ak an at_ aa ck cc cn xk xn xi xt (.slice xA xr.length xc))
  unfold ElsA at HEL
  generalize (w.alloc (Obj.cells #[.int .i64 ak, .int .i64 an, .string at_, .bool aa] 25)).alloc (Obj.cells #[.int .i64 ck, .int .i64 cc, .int .i64 cn, .int .i64 xk, .int .i64 xn, .int .i64 xi, .string xt, .slice xA xr.length xc] 30) = W0 at *
  refine ((HLV.out _ HBW.out)).mono ?_
  rintro e wa ⟨rfl, hba⟩
  have HB1 := Lib.hid (hba.mono (Nat.le_refl _) : Below W0.heap.size W0 wa)
  clear hba
  go_wp2_with fail
  refine (HLI.out _ (HBW.out.trans (HB1.out.mono HBW.out.size))).mono ?_
  rintro e w' ⟨rfl, rfl⟩
  obtain ⟨a0, a1, a2, a3, k0, k1, k2, k3, k4, k5, k6, k7⟩ := HEL.out _ HB1.out
  go_wp2_with fail
  clear a0 a1 a2 a3 k0 k1 k2 k3 k4 k5 k6 k7
  have hra := RSl.oneAt (enc := encA) (x := ⟨ak, an, at_, aa⟩) (MapKept.heap_alloc wa (Obj.cells #[.int .i64 ak, .int .i64 an, .string at_, .bool aa] 25)).1 rfl
  refine (HLA.out _ _ hra).mono ?_
  rintro e w' ⟨rfl, rfl⟩
  have HB2 := Lib.hid (up2 HB1.out (below1 wa (Obj.cells #[.int .i64 ak, .int .i64 an, .string at_, .bool aa] 25)) : Below W0.heap.size W0 _)
  clear hra
  go_wp2_with fail
  refine (HFW.out _ (HBW.out.trans (HB2.out.mono HBW.out.size))).mono ?_
  rintro e w' ⟨rfl, rfl⟩
  obtain ⟨a0, a1, a2, a3, k0, k1, k2, k3, k4, k5, k6, k7⟩ := HEL.out _ HB2.out
  generalize wa.alloc (Obj.cells #[.int .i64 ak, .int .i64 an, .string at_, .bool aa] 25) = wb at *
  go_wp2_with fail
  clear a0 a1 a2 a3 k0 k1 k2 k3 k4 k5 k6 k7
  have hrc := RSl.oneAt (enc := encC) (x := ⟨ck, cc, cn, ⟨xk, xn, xi, xt, xA, xc, xr⟩⟩) (MapKept.heap_alloc wb (Obj.cells #[.int .i64 ck, .int .i64 cc, .int .i64 cn, .int .i64 xk, .int .i64 xn, .int .i64 xi, .string xt, .slice xA xr.length xc] 30)).1 rfl
  have HB3 := Lib.hid (up2 HB2.out (below1 wb (Obj.cells #[.int .i64 ck, .int .i64 cc, .int .i64 cn, .int .i64 xk, .int .i64 xn, .int .i64 xi, .string xt, .slice xA xr.length xc] 30)) : Below W0.heap.size W0 _)
  refine (HFC.out _ _ (HBW.out.trans (HB3.out.mono HBW.out.size)) hrc).mono ?_
  rintro e w' ⟨rfl, rfl⟩
  clear hrc
  generalize wb.alloc (Obj.cells #[.int .i64 ck, .int .i64 cc, .int .i64 cn, .int .i64 xk, .int .i64 xn, .int .i64 xi, .string xt, .slice xA xr.length xc] 30) = wc at *
  obtain ⟨a0, a1, a2, a3, k0, k1, k2, k3, k4, k5, k6, k7⟩ := HEL.out _ HB3.out
  go_wp2_with fail
  refine (HDN.out _).mono ?_
  rintro e wd ⟨rfl, hb⟩
  have HB4 := Lib.hid (up2 HB3.out hb : Below W0.heap.size W0 _)
  clear a0 a1 a2 a3 k0 k1 k2 k3 k4 k5 k6 k7
  clear hb
  obtain ⟨a0, a1, a2, a3, k0, k1, k2, k3, k4, k5, k6, k7⟩ := HEL.out _ HB4.out
  go_wp2_with fail
  refine (gget_nil _ _).mono ?_
  rintro e we ⟨rfl, hb⟩
  have HB5 := Lib.hid (up2 HB4.out hb : Below W0.heap.size W0 _)
  clear a0 a1 a2 a3 k0 k1 k2 k3 k4 k5 k6 k7
  clear hb
  go_wp2_with fail
  refine (cut_nil _ _ _).mono ?_
  rintro e wf ⟨rfl, hb⟩
  have HB6 := Lib.hid (up2 (up2 HB5.out (below1 we _)) hb : Below W0.heap.size W0 _)
  clear hb
  go_wp2_with fail
  refine (rall_nil _).mono ?_
  rintro e wg0 ⟨rfl, hb⟩
  have HB7 := Lib.hid (up2 HB6.out hb : Below W0.heap.size W0 _)
  clear hb
  go_wp2_with fail
  refine (rcopy_nil _).mono ?_
  rintro e wg1 ⟨rfl, hb⟩
  have HB8 := Lib.hid (up2 HB7.out hb : Below W0.heap.size W0 _)
  clear hb
  obtain ⟨a0, a1, a2, a3, k0, k1, k2, k3, k4, k5, k6, k7⟩ := HEL.out _ HB8.out
  go_wp2_with fail
  clear a0 a1 a2 a3 k0 k1 k2 k3 k4 k5 k6 k7
  refine (HCN.out _ (HBW.out.trans (HB8.out.mono HBW.out.size))).mono ?_
  rintro e wg2 ⟨rfl, hb⟩
  have HB9 := Lib.hid (up2 HB8.out hb : Below W0.heap.size W0 _)
  clear hb
  go_wp2_with fail
  refine (gnames_nil _).mono ?_
  rintro e wg3 ⟨rfl, hb⟩
  have HB10 := Lib.hid (up2 HB9.out hb : Below W0.heap.size W0 _)
  clear hb
  go_wp2_with fail
  refine (gcopy_nil _).mono ?_
  rintro e wg4 ⟨rfl, hb⟩
  have HB11 := Lib.hid (up2 HB10.out hb : Below W0.heap.size W0 _)
  clear hb
  go_wp2_with fail
  refine (erase_nil _ _ _).mono ?_
  rintro e wg5 ⟨rfl, hb⟩
  have HB12 := Lib.hid (up2 HB11.out hb : Below W0.heap.size W0 _)
  clear hb
  go_wp2_with fail
  refine (paste_nil _ _).mono ?_
  rintro e wg6 ⟨rfl, hb⟩
  have HB13 := Lib.hid (up2 HB12.out hb : Below W0.heap.size W0 _)
  clear hb
  go_wp2_with fail
  refine (knew_ok 5 _ (by omega) (by omega)).mono ?_
  rintro e wh ⟨rfl, hr, hb⟩
  have hR0 : Ring wh wg6.heap.size [] 5 0 := ⟨_, _, hr, rfl⟩
  have HB14 := Lib.hid (up2 HB13.out hb : Below W0.heap.size W0 _)
  have hz0 := hb.size
  have hz1 := hR0.lt
  clear hr hb
  go_wp2_with fail
  refine (regs_new _).mono ?_
  rintro e ws ⟨b, bm, rfl, hs, hb1, hb2, hbb⟩
  have HB15 := Lib.hid (up2 HB14.out hbb : Below W0.heap.size W0 _)
  have hP0 : Ap W0.heap.size ws.heap.size ws wg6.heap.size [] 0 b bm [] := ⟨hR0.up hbb, hs, by omega, by omega, HB13.out.size, by have := HB14.out.size; omega, by have := hbb.size; omega, hs.lt, hs.im.lt, Nat.le_refl _, fun g ⟨p, hp, _⟩ => by simp at hp⟩
  have HP0 := Lib.hid hP0
  have hwx : W0.heap.size ≤ ws.heap.size := HB15.out.size
  generalize ws.heap.size = X at *
  generalize wg6.heap.size = br at *
  clear hR0 hs hbb hP0 HB2 HB3 HB4 HB5 HB6 HB7 HB8 HB9 HB10 HB11 HB12 HB13 HB14 HB1 HDN HCN HLV HLI HLA HFW HFC
  go_wp2_with fail
  go_loopw [20] (fun vi wr => ∃ (k : Nat) (L : List ByteArray) (t_ : Nat), k ≤ l.length ∧ vi = .int .i64 k ∧ Ap W0.heap.size X wr br L t_ b bm [] ∧ (∀ x ∈ L, x.size ≤ 40 * k) ∧ Below W0.heap.size W0 wr) (fun vi _ => l.length - (intOf vi).toNat)
  case atStart => exact ⟨0, [], 0, by omega, rfl, HP0.out, by simp, HB15.out⟩
  case round =>
    obtain ⟨k, L, t_, hk, rfl, P, hLs, hbel⟩ := hrel
    have hWw := HBW.out.trans (hbel.mono HBW.out.size)
    by_cases hlt : k < l.length
    · obtain ⟨x, hx⟩ : ∃ x, l[k]? = some x := ⟨_, List.getElem?_eq_getElem hlt⟩
      have hxs := HT1.out x (List.mem_of_getElem? hx)
      obtain ⟨g, o, rfl, hg, hc⟩ := (H1.out.up hWw).at_ eltA hx
      have e0 := hc 0 _ rfl
      have e1 := hc 1 _ rfl
      have e2 := hc 2 _ rfl
      have e3 := hc 3 _ rfl
      simp only [← Nat.add_assoc] at e0 e1 e2 e3
      simp only [Nat.add_zero] at e0
      have hlt' : (k : Int) < l.length := by omega
      have hcd := P.r.cDo x (by have := head_size hLs; omega) (HT.out.up hWw) (Nat.le_trans HBW.out.size P.b1)
      have HCD := Lib.hid hcd
      have HDS := Lib.hid (doK_size (most := 5) (at_ := t_) hLs x hxs)
      have HP := Lib.hid P
      have HBE := Lib.hid hbel
      clear hc hx hcd P hbel hWw hLs
      go_wp2_with fail
      refine HCD.out.mono ?_
      rintro e w' ⟨rfl, hr, ho⟩
      have hP' := Lib.hid (HP.out.ring hr ho)
      have hB' := Lib.hid (HBE.out.trans (ho.below HBE.out.size (fun k hk => by have := HP.out.b1; omega)))
      clear hr ho e0 e1 e2 e3
      go_wp2_with fail
      go_roundw
      case rel => exact ⟨k + 1, _, _, by omega, by go_num, hP'.out, fun y hy => by have := HDS.out y hy; omega, hB'.out⟩
      case measure => simp [intOf]; omega
    · obtain rfl : k = l.length := by omega
      have HP1 := Lib.hid P
      have HBE1 := Lib.hid hbel
      have HLS := Lib.hid (head_size hLs)
      clear P hbel hWw hLs HP0 HB15 hlt
      go_wp2_with fail
      go_loopw [21] (fun vi wr => ∃ (k : Nat) (m : List (Int × Reg)), k ≤ q.length ∧ vi = .int .i64 k ∧ Ap W0.heap.size X wr br L t_ b bm m ∧ m.length ≤ k ∧ Below W0.heap.size W0 wr) (fun vi _ => q.length - (intOf vi).toNat)
      case atStart => exact ⟨0, [], by omega, rfl, HP1.out, by simp, HBE1.out⟩
      case round =>
        obtain ⟨k, m, hk, rfl, P, hml, hbel⟩ := hrel
        have hWw := HBW.out.trans (hbel.mono HBW.out.size)
        by_cases hlt : k < q.length
        · obtain ⟨x, hx⟩ : ∃ x, q[k]? = some x := ⟨_, List.getElem?_eq_getElem hlt⟩
          have hxo := HOK.out x (List.mem_of_getElem? hx)
          obtain ⟨g, o, rfl, hg, hc⟩ := (H2.out.up hWw).at_ eltC hx
          have e0 := hc 0 _ rfl
          have e1 := hc 1 _ rfl
          have e2 := hc 2 _ rfl
          have e3 := hc 3 _ rfl
          have e4 := hc 4 _ rfl
          have e5 := hc 5 _ rfl
          have e6 := hc 6 _ rfl
          have e7 := hc 7 _ rfl
          simp only [← Nat.add_assoc] at e0 e1 e2 e3 e4 e5 e6 e7
          simp only [Nat.add_zero] at e0
          have hlt' : (k : Int) < q.length := by omega
          have hcd := call_any P.s x (hxo.up hWw) (HT.out.up hWw) hWw.size
          have HCD := Lib.hid hcd
          have HCL := Lib.hid (callM_len (conM m) x)
          have HP := Lib.hid P
          have HBE := Lib.hid hbel
          clear hc hx hcd P hbel hWw hxo
          go_wp2_with fail
          refine HCD.out.mono ?_
          rintro e w' ⟨m2, rfl, hm2, hme, hom, hfm⟩
          have hml2 : m2.length ≤ m.length + 1 := by have := HCL.out; rw [← hme, conM_length, conM_length] at this; exact this
          have hP' := Lib.hid (HP.out.regs hm2 hom hfm)
          have hB' := Lib.hid (HBE.out.trans (hom.below HBE.out.size (fun k hk => by have := HP.out.b2; omega)))
          clear hm2 hme hom hfm e0 e1 e2 e3 e4 e5 e6 e7
          go_wp2_with fail
          go_roundw
          case rel => exact ⟨k + 1, m2, by omega, by go_num, hP'.out, by omega, hB'.out⟩
          case measure => simp [intOf]; omega
        · obtain rfl : k = q.length := by omega
          have HP2 := Lib.hid P
          have HBE2 := Lib.hid hbel
          have hml' : m.length ≤ 40 := by omega
          clear P hbel hWw hlt HP1 HBE1
          go_wp2_with fail
          refine HP2.out.r.copy.mono ?_
          rintro e w1 ⟨bt, rfl, hbt, hq1, hb1⟩
          have HP3 := Lib.hid (HP2.out.up hb1)
          have HBE3 := Lib.hid (up2 HBE2.out hb1)
          have hq1l := hq1.lt
          have hz1 := hb1.size
          have HFT := Lib.hid (fun (g : Nat) (hg : Foot m g) => foot_lt1 HP2.out.s hg)
          have HQ1 := Lib.hid hq1
          clear hq1 hb1
          go_wp2_with fail
          refine (rcopy_any HP3.out.s).mono ?_
          rintro e w2 ⟨bu, bmu, rfl, hu2, hbu, hbmu, hb2⟩
          have hz2 := hb2.size
          have hu2l := hu2.lt
          have hu2m := hu2.im.lt
          have HP4 := Lib.hid (HP3.out.up hb2)
          have HBE4 := Lib.hid (up2 HBE3.out hb2)
          have HQ2 := Lib.hid (HQ1.out.up hb2)
          have HU2 := Lib.hid hu2
          clear hu2 hb2
          go_wp2_with fail
          refine HP4.out.r.all.mono ?_
          rintro e w3 ⟨v3, rfl, hown3, hb3⟩
          obtain ⟨A3, c3, rfl, _, _, hr3⟩ := hown3.shape eltS
          have HF3 := Lib.hid (fun (g : Nat) (o : Nat) (e : A3 = some ⟨g, o, none⟩) => hown3.base (g := g) (by rw [e]; rfl))
          have HR3 := Lib.hid hr3
          have hz3 := hb3.size
          have HB3 := Lib.hid hb3
          have HP5 := Lib.hid (HP4.out.up hb3)
          have HBE5 := Lib.hid (up2 HBE4.out hb3)
          have HQ3 := Lib.hid (HQ2.out.up hb3)
          have HU3 := Lib.hid (HU2.out.up hb3)
          clear hown3 hr3 hb3
          go_wp2_with fail
          refine (names_of HP5.out.s (by omega)).mono ?_
          rintro e w4 ⟨v4, rfl, hown4, hb4⟩
          obtain ⟨A4, c4, rfl, _, _, hr4⟩ := hown4.shape eltI
          have HF4 := Lib.hid (fun (g : Nat) (o : Nat) (e : A4 = some ⟨g, o, none⟩) => hown4.base (g := g) (by rw [e]; rfl))
          have HR4 := Lib.hid hr4
          have hz4 := hb4.size
          have HP6 := Lib.hid (HP5.out.up hb4)
          have HBE6 := Lib.hid (up2 HBE5.out hb4)
          have HQ4 := Lib.hid (HQ3.out.up hb4)
          have HU4 := Lib.hid (HU3.out.up hb4)
          have HR3b := Lib.hid (HR3.out.up hb4)
          clear hown4 hr4 hb4
          obtain ⟨a0, a1, a2, a3, k0, k1, k2, k3, k4, k5, k6, k7⟩ := HEL.out _ HBE6.out
          go_wp2_with fail
          refine (get_con HP6.out.s cc).mono ?_
          rintro e w5 ⟨⟨y1, n1, d1, s1, A5, c5, r5⟩, is5, rfl, hin5, hfr5, hb5, hy5, hs5⟩
          have hbW := up2 hb5 (below1 w5 (.cells #[.int .i64 y1, .int .i64 n1, .int .i64 d1, .string s1, .slice A5 r5.length c5] 28))
          have hz5 := hb5.size
          have HP7 := Lib.hid (HP6.out.up hbW)
          have HBE7 := Lib.hid (up2 HBE6.out hbW)
          have HQ5 := Lib.hid (HQ4.out.up hbW)
          have HU5 := Lib.hid (HU4.out.up hbW)
          have HR3c := Lib.hid (HR3b.out.up hbW)
          have HR4c := Lib.hid (HR4.out.up hbW)
          have HIN5 := Lib.hid (hin5.up (below1 w5 (.cells #[.int .i64 y1, .int .i64 n1, .int .i64 d1, .string s1, .slice A5 r5.length c5] 28)))
          have HFR5 := Lib.hid hfr5
          have HY5 := Lib.hid hy5
          have HS5 := Lib.hid hs5
          clear a0 a1 a2 a3 k0 k1 k2 k3 k4 k5 k6 k7
          clear hin5 hfr5 hb5 hy5 hs5 hbW
          obtain ⟨a0, a1, a2, a3, k0, k1, k2, k3, k4, k5, k6, k7⟩ := HEL.out _ HBE7.out
          have HCD := Lib.hid (HQ5.out.cDo ⟨ak, an, at_, aa⟩ (by have := HLS.out; show at_.size + _ ≤ 65536; have : at_.size ≤ 40 := hta; omega) (HT.out.up (HBW.out.trans (HBE7.out.mono HBW.out.size))) (by have := HBW.out.size; have := HBE2.out.size; omega))
          go_wp2_with fail
          refine HCD.out.mono ?_
          rintro e w6 ⟨rfl, hq6, ho6⟩
          have hz6 := ho6.size
          simp at hz6
          clear a0 a1 a2 a3 k0 k1 k2 k3 k4 k5 k6 k7
          have z0 := (ho6.cell (k := w5.heap.size) (o := 0) (by simp) (fun e => by omega))
          have z1 := (ho6.cell (k := w5.heap.size) (o := 1) (by simp) (fun e => by omega))
          have z2 := (ho6.cell (k := w5.heap.size) (o := 2) (by simp) (fun e => by omega))
          have z3 := (ho6.cell (k := w5.heap.size) (o := 3) (by simp) (fun e => by omega))
          have z4 := (ho6.cell (k := w5.heap.size) (o := 4) (by simp) (fun e => by omega))
          simp at z0 z1 z2 z3 z4
          have HQ6 := Lib.hid hq6
          have hXY : X ≤ wr.heap.size := HP2.out.x4
          have HP8 := Lib.hid (HP7.out.other ho6 hXY (fun g e => by omega) HFT.out)
          have HU6 := Lib.hid (HU5.out.other ho6 (fun e => by omega) (fun e => by omega) (fun g hg e => by have := HFT.out g hg; omega))
          have HBE8 := Lib.hid (HBE7.out.trans (ho6.below HBE7.out.size (fun k hk => by have := HBE2.out.size; omega)))
          have HR3d := Lib.hid (HR3c.out.only ho6 (fun _ g o e e' => by have := HF3.out g o e; omega))
          have HR4d := Lib.hid (HR4c.out.only ho6 (fun _ g o e e' => by have := HF4.out g o e; omega))
          have HIN6 := Lib.hid (HIN5.out.fresh ho6 (n := w4.heap.size) (fun g hg => HFR5.out.blk hg) (fun g hg => by omega))
          clear hq6 ho6
          obtain ⟨a0, a1, a2, a3, k0, k1, k2, k3, k4, k5, k6, k7⟩ := HEL.out _ HBE8.out
          have HCC := Lib.hid (call_any HU6.out ⟨ck, cc, cn, ⟨xk, xn, xi, xt, xA, xc, xr⟩⟩ (HCA.out.up (HBW.out.trans (HBE8.out.mono HBW.out.size))) (HT.out.up (HBW.out.trans (HBE8.out.mono HBW.out.size))) (HBW.out.trans (HBE8.out.mono HBW.out.size)).size)
          go_wp2_with fail
          refine HCC.out.mono ?_
          rintro e w7 ⟨m7, rfl, hm7, hme7, ho7, hf7⟩
          have hz7 := ho7.size
          clear a0 a1 a2 a3 k0 k1 k2 k3 k4 k5 k6 k7
          have x0 := (ho7.cell (k := w5.heap.size) (o := 0) (by omega) (fun e => by omega)).trans z0
          have x1 := (ho7.cell (k := w5.heap.size) (o := 1) (by omega) (fun e => by omega)).trans z1
          have x2 := (ho7.cell (k := w5.heap.size) (o := 2) (by omega) (fun e => by omega)).trans z2
          have x3 := (ho7.cell (k := w5.heap.size) (o := 3) (by omega) (fun e => by omega)).trans z3
          have x4 := (ho7.cell (k := w5.heap.size) (o := 4) (by omega) (fun e => by omega)).trans z4
          clear z0 z1 z2 z3 z4
          have HQ7 := Lib.hid (HQ6.out.kept (ho7.block bt HQ6.out.lt (fun e => by omega)))
          have HU7 := Lib.hid hm7
          have HME7 := Lib.hid hme7
          have HF7 := Lib.hid (fun (g : Nat) (hg : Foot m7 g) => show X ≤ g from (hf7 g hg).elim (HP8.out.f g) (fun h => by omega))
          have HP9 := Lib.hid (HP8.out.other ho7 hXY (fun g e => by omega) HFT.out)
          have HBE9 := Lib.hid (HBE8.out.trans (ho7.below HBE8.out.size (fun k hk => by have := HBE2.out.size; omega)))
          have HR3e := Lib.hid (HR3d.out.only ho7 (fun _ g o e e' => by have := HF3.out g o e; omega))
          have HR4e := Lib.hid (HR4d.out.only ho7 (fun _ g o e e' => by have := HF4.out g o e; omega))
          have HIN7 := Lib.hid (HIN6.out.fresh ho7 (n := w4.heap.size) (fun g hg => HFR5.out.blk hg) (fun g hg => by omega))
          clear hm7 hme7 ho7 hf7
          obtain ⟨a0, a1, a2, a3, k0, k1, k2, k3, k4, k5, k6, k7⟩ := HEL.out _ HBE9.out
          go_wp2_with fail
          refine (get_con HP9.out.s cc).mono ?_
          rintro e w8 ⟨⟨y2, n2, d2, s2, A8, c8, r8⟩, is8, rfl, hin8, hfr8, hb8, hy8, hs8⟩
          have hbW := up2 hb8 (below1 w8 (.cells #[.int .i64 y2, .int .i64 n2, .int .i64 d2, .string s2, .slice A8 r8.length c8] 28))
          clear a0 a1 a2 a3 k0 k1 k2 k3 k4 k5 k6 k7
          have hz8 := hb8.size
          have z0 := (hbW.cell (p := ⟨w5.heap.size, 0, none⟩) (show w5.heap.size < w7.heap.size by omega)).trans x0
          have z1 := (hbW.cell (p := ⟨w5.heap.size, 1, none⟩) (show w5.heap.size < w7.heap.size by omega)).trans x1
          have z2 := (hbW.cell (p := ⟨w5.heap.size, 2, none⟩) (show w5.heap.size < w7.heap.size by omega)).trans x2
          have z3 := (hbW.cell (p := ⟨w5.heap.size, 3, none⟩) (show w5.heap.size < w7.heap.size by omega)).trans x3
          have z4 := (hbW.cell (p := ⟨w5.heap.size, 4, none⟩) (show w5.heap.size < w7.heap.size by omega)).trans x4
          have HP10 := Lib.hid (HP9.out.up hbW)
          have HBE10 := Lib.hid (up2 HBE9.out hbW)
          have HQ8 := Lib.hid (HQ7.out.up hbW)
          have HU8 := Lib.hid (HU7.out.up hbW)
          have HR3f := Lib.hid (HR3e.out.up hbW)
          have HR4f := Lib.hid (HR4e.out.up hbW)
          have HIN8 := Lib.hid (hin8.up (below1 w8 (.cells #[.int .i64 y2, .int .i64 n2, .int .i64 d2, .string s2, .slice A8 r8.length c8] 28)))
          have HIN7b := Lib.hid (HIN7.out.up hbW)
          have HY8 := Lib.hid hy8
          have HS8 := Lib.hid hs8
          clear hin8 hfr8 hb8 hy8 hs8 hbW x0 x1 x2 x3 x4
          go_wp2_with fail
          refine HP10.out.r.all.mono ?_
          rintro e w9 ⟨v9, rfl, hown9, hb9⟩
          obtain ⟨A9, c9, rfl, _, _, hr9⟩ := hown9.shape eltS
          have hL5 := HP10.out.r.len.1
          have HSS := Lib.hid (sameS_true c9 c3 hr9 (HR3f.out.up hb9) (by omega))
          have HB9 := Lib.hid hb9
          clear hown9 hr9 hb9
          go_wp2_with fail
          refine HSS.out.mono ?_
          rintro e wA ⟨rfl, hbA⟩
          have HBA := Lib.hid (up2 HB9.out hbA)
          have HPA := Lib.hid (HP10.out.up HBA.out)
          clear hbA
          go_wp2_with fail
          refine (names_of HPA.out.s (by omega)).mono ?_
          rintro e wB ⟨vB, rfl, hownB, hbB⟩
          obtain ⟨AB, cB, rfl, _, _, hrB⟩ := hownB.shape eltI
          have HBB := Lib.hid (up2 HBA.out hbB)
          have hkl : (keysOf (conM m)).length ≤ 1000000 := by have := (keysOf_perm m).length_eq; simp at this; omega
          have HSI := Lib.hid (sameI_true cB c4 hrB (HR4f.out.up HBB.out) hkl)
          clear hownB hrB hbB
          go_wp2_with fail
          refine HSI.out.mono ?_
          rintro e wC ⟨rfl, hbC⟩
          have HBC := Lib.hid (up2 HBB.out hbC)
          have he58 : is8 = is5 := by rw [HS5.out, HS8.out]
          subst he58
          have d0 := bne_self is8
          have hzC := HBC.out.size
          simp at hzC
          have x0 := (HBC.out.cell (p := ⟨w5.heap.size, 0, none⟩) (by simp; omega)).trans z0
          have x1 := (HBC.out.cell (p := ⟨w5.heap.size, 1, none⟩) (by simp; omega)).trans z1
          have x2 := (HBC.out.cell (p := ⟨w5.heap.size, 2, none⟩) (by simp; omega)).trans z2
          have x3 := (HBC.out.cell (p := ⟨w5.heap.size, 3, none⟩) (by simp; omega)).trans z3
          have x4 := (HBC.out.cell (p := ⟨w5.heap.size, 4, none⟩) (by simp; omega)).trans z4
          have y0 := HBC.out.cell (p := ⟨w8.heap.size, 0, none⟩) (by simp)
          have y1 := HBC.out.cell (p := ⟨w8.heap.size, 1, none⟩) (by simp)
          have y2 := HBC.out.cell (p := ⟨w8.heap.size, 2, none⟩) (by simp)
          have y3 := HBC.out.cell (p := ⟨w8.heap.size, 3, none⟩) (by simp)
          have y4 := HBC.out.cell (p := ⟨w8.heap.size, 4, none⟩) (by simp)
          simp at y0 y1 y2 y3 y4
          have HSA := Lib.hid (same_true (HIN7b.out.up HBC.out) (HIN8.out.up HBC.out) (by rw [HY5.out, HY8.out]) (by have := con_rows HP10.out.s cc; rw [← HY5.out] at this; exact this))
          clear hbC z0 z1 z2 z3 z4
          go_wp2_with fail
          refine HSA.out.mono ?_
          rintro e wD ⟨rfl, hbD⟩
          have HBD := Lib.hid (up2 HBC.out hbD)
          have HPD := Lib.hid (HP10.out.up HBD.out)
          have HBE11 := Lib.hid (up2 HBE10.out HBD.out)
          have HQ9 := Lib.hid (HQ8.out.up HBD.out)
          have HU9 := Lib.hid (HU8.out.up HBD.out)
          clear hbD x0 x1 x2 x3 x4 y0 y1 y2 y3 y4
          obtain ⟨a0, a1, a2, a3, k0, k1, k2, k3, k4, k5, k6, k7⟩ := HEL.out _ HBE11.out
          have HCR := Lib.hid (HPD.out.r.cDo ⟨ak, an, at_, aa⟩ (by have := HLS.out; show at_.size + _ ≤ 65536; have : at_.size ≤ 40 := hta; omega) (HT.out.up (HBW.out.trans (HBE11.out.mono HBW.out.size))) (Nat.le_trans HBW.out.size HPD.out.b1))
          go_wp2_with fail
          refine HCR.out.mono ?_
          rintro e wE ⟨rfl, hrE, hoE⟩
          clear a0 a1 a2 a3 k0 k1 k2 k3 k4 k5 k6 k7
          have hx1 := HPD.out.x1
          have hx2 := HPD.out.x3
          have HPE := Lib.hid (HPD.out.ring hrE hoE)
          have HQ10 := Lib.hid (HQ9.out.kept (hoE.block bt HQ9.out.lt (fun e => by omega)))
          have HU10 := Lib.hid (HU9.out.other hoE (fun e => by omega) (fun e => by omega) (fun g hg e => by have := HF7.out g hg; omega))
          have HBE12 := Lib.hid (HBE11.out.trans (hoE.below HBE11.out.size (fun k hk => by have := HPD.out.b1; omega)))
          clear hrE hoE
          generalize hD : doK 5 L t_ ⟨ak, an, at_, aa⟩ = D at *
          have e0 : (D.x.toList == D.x.toList) = true := by simp
          have e1 : ((D.err : Int) == (D.err : Int)) = true := by simp
          obtain ⟨a0, a1, a2, a3, k0, k1, k2, k3, k4, k5, k6, k7⟩ := HEL.out _ HBE12.out
          go_wp2_with fail
          refine (call_any HPE.out.s ⟨ck, cc, cn, ⟨xk, xn, xi, xt, xA, xc, xr⟩⟩ (HCA.out.up (HBW.out.trans (HBE12.out.mono HBW.out.size))) (HT.out.up (HBW.out.trans (HBE12.out.mono HBW.out.size))) (HBW.out.trans (HBE12.out.mono HBW.out.size)).size).mono ?_
          rintro e wF ⟨m9, rfl, hm9, hme9, ho9, hf9⟩
          clear a0 a1 a2 a3 k0 k1 k2 k3 k4 k5 k6 k7
          have HCL9 := callM_len (conM m) ⟨ck, cc, cn, ⟨xk, xn, xi, xt, xA, xc, xr⟩⟩
          have hl9 : m9.length ≤ m.length + 1 := by rw [← hme9, conM_length, conM_length] at HCL9; exact HCL9
          have hm97 : conM m7 = conM m9 := by rw [HME7.out, hme9]
          have hl7 : m7.length = m9.length := by have := congrArg List.length hm97; rwa [conM_length, conM_length] at this
          have HPF := Lib.hid (HPE.out.regs hm9 ho9 hf9)
          have HQ11 := Lib.hid (HQ10.out.kept (ho9.block bt HQ10.out.lt (fun e => by omega)))
          have HU11 := Lib.hid (HU10.out.other ho9 (fun e => by omega) (fun e => by omega) (fun g hg e => by have := HF7.out g hg; omega))
          have HBE13 := Lib.hid (HBE12.out.trans (ho9.below HBE12.out.size (fun k hk => by have := HPE.out.b2; omega)))
          have HM97 := Lib.hid hm97
          clear hm9 hme9 ho9 hf9 HCL9 hm97
          generalize callE (conM m) ⟨ck, cc, cn, ⟨xk, xn, xi, xt, xA, xc, xr⟩⟩ = ce at *
          have e2 : (ce == ce) = true := by simp
          go_wp2_with fail
          refine HPF.out.r.all.mono ?_
          rintro e wG ⟨vG, rfl, hownG, hbG⟩
          obtain ⟨AG, cG, rfl, _, _, hrG⟩ := hownG.shape eltS
          have HRG := Lib.hid hrG
          have HBG := Lib.hid hbG
          clear hownG hrG hbG
          go_wp2_with fail
          refine (HQ11.out.up HBG.out).all.mono ?_
          rintro e wH ⟨vH, rfl, hownH, hbH⟩
          obtain ⟨AH, cH, rfl, _, _, hrH⟩ := hownH.shape eltS
          have hL5b := HPF.out.r.len.1
          have HSH := Lib.hid (sameS_true cG cH (HRG.out.up hbH) hrH (by omega))
          have HBH := Lib.hid (up2 HBG.out hbH)
          clear hownH hrH hbH
          go_wp2_with fail
          refine HSH.out.mono ?_
          rintro e wI ⟨rfl, hbI⟩
          have HBI := Lib.hid (up2 HBH.out hbI)
          clear hbI
          go_wp2_with fail
          refine (names_of (HPF.out.up HBI.out).s (by omega)).mono ?_
          rintro e wJ ⟨vJ, rfl, hownJ, hbJ⟩
          obtain ⟨AJ, cJ, rfl, _, _, hrJ⟩ := hownJ.shape eltI
          have HBJ := Lib.hid (up2 HBI.out hbJ)
          have HRJ := Lib.hid hrJ
          clear hownJ hrJ hbJ
          go_wp2_with fail
          refine (names_of (HU11.out.up HBJ.out) (by omega)).mono ?_
          rintro e wK ⟨vK, rfl, hownK, hbK⟩
          rw [HM97.out] at hownK
          obtain ⟨AK, cK, rfl, _, _, hrK⟩ := hownK.shape eltI
          have hkl9 : (keysOf (conM m9)).length ≤ 1000000 := by have := (keysOf_perm m9).length_eq; simp at this; omega
          have HSK := Lib.hid (sameI_true cJ cK (HRJ.out.up hbK) hrK hkl9)
          have HBK := Lib.hid (up2 HBJ.out hbK)
          clear hownK hrK hbK
          go_wp2_with fail
          refine HSK.out.mono ?_
          rintro e wL ⟨rfl, hbL⟩
          go_wp2_with fail
          go_ret
          exact ⟨rfl, (HBW.out.trans ((HBE13.out.trans ((up2 HBK.out hbL).mono HBE13.out.size)).mono HBW.out.size))⟩
end Go.Proofs.YtaofcnmajicpcaaGreatDoor
