/- copyistlaw25.KillApart at every argument. -/
import Derived.Test.YtaofcnmajicpcaaGreatDoorKaD
import Derived.Test.YtaofcnmajicpcaaGreatDoorKgActs
namespace Go.Proofs.YtaofcnmajicpcaaGreatDoor
open Go.ChangeShapes Go.WideShapes Go.Deep Go.RowKit
set_option linter.unusedVariables false
set_option linter.unusedSimpArgs false
set_option maxRecDepth 100000 in
theorem act_open {H : Type} {enc : TypeId × Value → H} {W : World} {n : Nat} {cs : List Value} {x : DataW H × List MemPlace} (h : DataW.trod enc Tryz.prog W 0 (fun _ => true) true n 25 cs = some x) : ∃ a : KAct, cs = encA a ∧ a.text.size ≤ maxLen := by
  obtain ⟨ys, n', hn', hy, hlen, hyl, hf⟩ := DataW.trod_struct Tryz.underlying25 h
  have h4 : cs.length = 4 := hlen.trans (by kernel_rfl)
  match cs, h4 with
  | [v0, v1, v2, v3], _ =>
    have t0 := hf 0 _ rfl
    have t1 := hf 1 _ rfl
    have t2 := hf 2 _ rfl
    have t3 := hf 3 _ rfl
    have ki : Tryz.prog.cellsOf 3 = 1 := by kernel_rfl
    have ks : Tryz.prog.cellsOf 9 = 1 := by kernel_rfl
    have kb : Tryz.prog.cellsOf 4 = 1 := by kernel_rfl
    simp only [List.getElem_toArray, List.getElem_cons_zero, List.getElem_cons_succ, ki, ks, kb, List.drop_succ_cons, List.drop_zero, List.take_succ_cons, List.take_zero, List.take_nil] at t0 t1 t2 t3
    have l4 : ys.length = 4 := hyl
    obtain ⟨x0, e0, _, _⟩ := DataW.trod_int Tryz.underlying3 (t0.trans (List.getElem?_eq_getElem (by omega)))
    obtain ⟨x1, e1, _, _⟩ := DataW.trod_int Tryz.underlying3 (t1.trans (List.getElem?_eq_getElem (by omega)))
    obtain ⟨x2, e2, _, hs2⟩ := DataW.trod_string Tryz.underlying9 (t2.trans (List.getElem?_eq_getElem (by omega)))
    obtain ⟨x3, e3, _⟩ := DataW.trod_bool Tryz.underlying4 (t3.trans (List.getElem?_eq_getElem (by omega)))
    simp at e0 e1 e2 e3
    subst e0 e1 e2 e3
    exact ⟨⟨x0, x1, x2, x3⟩, rfl, hs2⟩
set_option maxRecDepth 100000 in
theorem act_arg {H : Type} {enc : TypeId × Value → H} {W : World} {b0 : Nat} {v : Value} {d : DataW H} {p : List MemPlace} (hv : Value.okWide Tryz.prog W .any b0 25 v) (h : DataW.Trod enc Tryz.prog W 0 (fun _ => true) true 25 v d p) : ∃ a : KAct, v = .agg #[.int .i64 a.kind, .int .i64 a.n, .string a.text, .bool a.ahead] ∧ a.text.size ≤ maxLen := by
  obtain ⟨cs, rfl, hsz⟩ := okWide_struct Tryz.underlying25 hv
  obtain ⟨l⟩ := cs
  obtain ⟨fuel, hf⟩ := h
  obtain ⟨a, ha, hs⟩ := act_open hf
  have ha' : l = encA a := ha
  subst ha'
  exact ⟨a, rfl, hs⟩
set_option maxRecDepth 100000 in
theorem call_arg {H : Type} {enc : TypeId × Value → H} {W : World} {b0 : Nat} {v : Value} {d : DataW H} {p : List MemPlace} (hv : Value.okWide Tryz.prog W .any b0 30 v) (h : DataW.Trod enc Tryz.prog W 0 (fun _ => true) true 30 v d p) : ∃ a : CallE, v = .agg #[.int .i64 a.kind, .int .i64 a.c, .int .i64 a.n, .int .i64 a.x.kind, .int .i64 a.x.n, .int .i64 a.x.id, .string a.x.text, .slice a.x.A a.x.rows.length a.x.c] ∧ CallIn W a := by
  obtain ⟨cs, rfl, hsz⟩ := okWide_struct Tryz.underlying30 hv
  obtain ⟨l⟩ := cs
  obtain ⟨fuel, hf⟩ := h
  obtain ⟨a, ha, hs⟩ := call_open hf
  have ha' : l = encC a := ha
  subst ha'
  exact ⟨a, rfl, hs⟩
set_option maxRecDepth 100000 in
set_option maxHeartbeats 4000000 in
theorem apart_bad (A1 : Option Addr) (c1 : Nat) (l : List KAct) (A2 : Option Addr) (c2 : Nat) (q : List CallE) (a : KAct) (c : CallE) (w : World) (hT : Tabs w.heap.size w) (b1 b2 b3 b4 : Bool) (hb : (b1 && b2 && b3 && b4) = false)
    (hlight : ∀ w1, Below w.heap.size w w1 → Calls Tryz.prog 5 #[.slice A1 l.length c1] w1 fun e w' => e = .returned (.bool b1) ∧ w1 = w')
    (hlighta : ∀ w1 A, RSl encA w1 A [a] → Calls Tryz.prog 5 #[.slice A 1 1] w1 fun e w' => e = .returned (.bool b2) ∧ w1 = w')
    (hfew : ∀ w1, Below w.heap.size w w1 → Calls Tryz.prog 6 #[.slice A2 q.length c2] w1 fun e w' => e = .returned (.bool b3) ∧ w1 = w')
    (hfewc : ∀ w1 A, Below w.heap.size w w1 → RSl encC w1 A [c] → Calls Tryz.prog 6 #[.slice A 1 1] w1 fun e w' => e = .returned (.bool b4) ∧ w1 = w') :
    Calls Tryz.prog 3 #[.slice A1 l.length c1, .slice A2 q.length c2, .agg #[.int .i64 a.kind, .int .i64 a.n, .string a.text, .bool a.ahead], .agg #[.int .i64 c.kind, .int .i64 c.c, .int .i64 c.n, .int .i64 c.x.kind, .int .i64 c.x.n, .int .i64 c.x.id, .string c.x.text, .slice c.x.A c.x.rows.length c.x.c]] w fun e w' => e = .returned (.bool true) ∧ Below w.heap.size w w' := by
  have HLV := Lib.hid (fun (w1 : World) (hb : Below w.heap.size w w1) => lives_true (hT.up hb) hb.size)
  have HLI := Lib.hid hlight
  have HLA := Lib.hid hlighta
  have HFW := Lib.hid hfew
  have HFC := Lib.hid hfewc
  obtain ⟨ak, an, at_, aa⟩ := a
  obtain ⟨ck, cc, cn, ⟨xk, xn, xi, xt, xA, xc, xr⟩⟩ := c
  clear hT hlight hlighta hfew hfewc
  have hcase : b1 = false ∨ (b1 = true ∧ b2 = false) ∨ (b1 = true ∧ b2 = true ∧ b3 = false) ∨ (b1 = true ∧ b2 = true ∧ b3 = true ∧ b4 = false) := by revert hb; cases b1 <;> cases b2 <;> cases b3 <;> cases b4 <;> decide
  clear hb
  obtain rfl | ⟨rfl, rfl⟩ | ⟨rfl, rfl, rfl⟩ | ⟨rfl, rfl, rfl, rfl⟩ := hcase
  · go_enter Tryz.func3, Tryz.ntmps3
    go_wp2_with fail
    have HBW := Lib.hid (up2 (below1 w (Obj.cells #[.int .i64 ak, .int .i64 an, .string at_, .bool aa] 25)) (below1 _ (Obj.cells #[.int .i64 ck, .int .i64 cc, .int .i64 cn, .int .i64 xk, .int .i64 xn, .int .i64 xi, .string xt, .slice xA xr.length xc] 30)))
    have HEL := Lib.hid (apart_els w ak an at_ aa ck cc cn xk xn xi xt (.slice xA xr.length xc))
    unfold ElsA at HEL
    generalize (w.alloc (Obj.cells #[.int .i64 ak, .int .i64 an, .string at_, .bool aa] 25)).alloc (Obj.cells #[.int .i64 ck, .int .i64 cc, .int .i64 cn, .int .i64 xk, .int .i64 xn, .int .i64 xi, .string xt, .slice xA xr.length xc] 30) = W0 at *
    refine ((HLV.out _ HBW.out)).mono ?_
    rintro e wa ⟨rfl, hba⟩
    have HB1 := Lib.hid (hba.mono (Nat.le_refl _) : Below W0.heap.size W0 wa)
    clear hba
    go_wp2_with fail
    refine (HLI.out _ (HBW.out.trans (HB1.out.mono HBW.out.size))).mono ?_
    rintro e w' ⟨rfl, rfl⟩
    go_wp2_with fail
    go_ret
    exact ⟨rfl, HBW.out.trans (HB1.out.mono HBW.out.size)⟩
  · go_enter Tryz.func3, Tryz.ntmps3
    go_wp2_with fail
    have HBW := Lib.hid (up2 (below1 w (Obj.cells #[.int .i64 ak, .int .i64 an, .string at_, .bool aa] 25)) (below1 _ (Obj.cells #[.int .i64 ck, .int .i64 cc, .int .i64 cn, .int .i64 xk, .int .i64 xn, .int .i64 xi, .string xt, .slice xA xr.length xc] 30)))
    have HEL := Lib.hid (apart_els w ak an at_ aa ck cc cn xk xn xi xt (.slice xA xr.length xc))
    unfold ElsA at HEL
    generalize (w.alloc (Obj.cells #[.int .i64 ak, .int .i64 an, .string at_, .bool aa] 25)).alloc (Obj.cells #[.int .i64 ck, .int .i64 cc, .int .i64 cn, .int .i64 xk, .int .i64 xn, .int .i64 xi, .string xt, .slice xA xr.length xc] 30) = W0 at *
    refine ((HLV.out _ HBW.out)).mono ?_
    rintro e wa ⟨rfl, hba⟩
    have HB1 := Lib.hid (hba.mono (Nat.le_refl _) : Below W0.heap.size W0 wa)
    clear hba
    go_wp2_with fail
    refine (HLI.out _ (HBW.out.trans (HB1.out.mono HBW.out.size))).mono ?_
    rintro e w' ⟨rfl, rfl⟩
    obtain ⟨a0, a1, a2, a3, k0, k1, k2, k3, k4, k5, k6, k7⟩ := HEL.out _ HB1.out
    go_wp2_with fail
    clear a0 a1 a2 a3 k0 k1 k2 k3 k4 k5 k6 k7
    have hra := RSl.oneAt (enc := encA) (x := ⟨ak, an, at_, aa⟩) (MapKept.heap_alloc wa (Obj.cells #[.int .i64 ak, .int .i64 an, .string at_, .bool aa] 25)).1 rfl
    refine (HLA.out _ _ hra).mono ?_
    rintro e w' ⟨rfl, rfl⟩
    have HB2 := Lib.hid (up2 HB1.out (below1 wa (Obj.cells #[.int .i64 ak, .int .i64 an, .string at_, .bool aa] 25)) : Below W0.heap.size W0 _)
    clear hra
    go_wp2_with fail
    go_ret
    exact ⟨rfl, HBW.out.trans (HB2.out.mono HBW.out.size)⟩
  · go_enter Tryz.func3, Tryz.ntmps3
    go_wp2_with fail
    have HBW := Lib.hid (up2 (below1 w (Obj.cells #[.int .i64 ak, .int .i64 an, .string at_, .bool aa] 25)) (below1 _ (Obj.cells #[.int .i64 ck, .int .i64 cc, .int .i64 cn, .int .i64 xk, .int .i64 xn, .int .i64 xi, .string xt, .slice xA xr.length xc] 30)))
    have HEL := Lib.hid (apart_els w ak an at_ aa ck cc cn xk xn xi xt (.slice xA xr.length xc))
    unfold ElsA at HEL
    generalize (w.alloc (Obj.cells #[.int .i64 ak, .int .i64 an, .string at_, .bool aa] 25)).alloc (Obj.cells #[.int .i64 ck, .int .i64 cc, .int .i64 cn, .int .i64 xk, .int .i64 xn, .int .i64 xi, .string xt, .slice xA xr.length xc] 30) = W0 at *
    refine ((HLV.out _ HBW.out)).mono ?_
    rintro e wa ⟨rfl, hba⟩
    have HB1 := Lib.hid (hba.mono (Nat.le_refl _) : Below W0.heap.size W0 wa)
    clear hba
    go_wp2_with fail
    refine (HLI.out _ (HBW.out.trans (HB1.out.mono HBW.out.size))).mono ?_
    rintro e w' ⟨rfl, rfl⟩
    obtain ⟨a0, a1, a2, a3, k0, k1, k2, k3, k4, k5, k6, k7⟩ := HEL.out _ HB1.out
    go_wp2_with fail
    clear a0 a1 a2 a3 k0 k1 k2 k3 k4 k5 k6 k7
    have hra := RSl.oneAt (enc := encA) (x := ⟨ak, an, at_, aa⟩) (MapKept.heap_alloc wa (Obj.cells #[.int .i64 ak, .int .i64 an, .string at_, .bool aa] 25)).1 rfl
    refine (HLA.out _ _ hra).mono ?_
    rintro e w' ⟨rfl, rfl⟩
    have HB2 := Lib.hid (up2 HB1.out (below1 wa (Obj.cells #[.int .i64 ak, .int .i64 an, .string at_, .bool aa] 25)) : Below W0.heap.size W0 _)
    clear hra
    go_wp2_with fail
    refine (HFW.out _ (HBW.out.trans (HB2.out.mono HBW.out.size))).mono ?_
    rintro e w' ⟨rfl, rfl⟩
    go_wp2_with fail
    go_ret
    exact ⟨rfl, HBW.out.trans (HB2.out.mono HBW.out.size)⟩
  · go_enter Tryz.func3, Tryz.ntmps3
    go_wp2_with fail
    have HBW := Lib.hid (up2 (below1 w (Obj.cells #[.int .i64 ak, .int .i64 an, .string at_, .bool aa] 25)) (below1 _ (Obj.cells #[.int .i64 ck, .int .i64 cc, .int .i64 cn, .int .i64 xk, .int .i64 xn, .int .i64 xi, .string xt, .slice xA xr.length xc] 30)))
    have HEL := Lib.hid (apart_els w ak an at_ aa ck cc cn xk xn xi xt (.slice xA xr.length xc))
    unfold ElsA at HEL
    generalize (w.alloc (Obj.cells #[.int .i64 ak, .int .i64 an, .string at_, .bool aa] 25)).alloc (Obj.cells #[.int .i64 ck, .int .i64 cc, .int .i64 cn, .int .i64 xk, .int .i64 xn, .int .i64 xi, .string xt, .slice xA xr.length xc] 30) = W0 at *
    refine ((HLV.out _ HBW.out)).mono ?_
    rintro e wa ⟨rfl, hba⟩
    have HB1 := Lib.hid (hba.mono (Nat.le_refl _) : Below W0.heap.size W0 wa)
    clear hba
    go_wp2_with fail
    refine (HLI.out _ (HBW.out.trans (HB1.out.mono HBW.out.size))).mono ?_
    rintro e w' ⟨rfl, rfl⟩
    obtain ⟨a0, a1, a2, a3, k0, k1, k2, k3, k4, k5, k6, k7⟩ := HEL.out _ HB1.out
    go_wp2_with fail
    clear a0 a1 a2 a3 k0 k1 k2 k3 k4 k5 k6 k7
    have hra := RSl.oneAt (enc := encA) (x := ⟨ak, an, at_, aa⟩) (MapKept.heap_alloc wa (Obj.cells #[.int .i64 ak, .int .i64 an, .string at_, .bool aa] 25)).1 rfl
    refine (HLA.out _ _ hra).mono ?_
    rintro e w' ⟨rfl, rfl⟩
    have HB2 := Lib.hid (up2 HB1.out (below1 wa (Obj.cells #[.int .i64 ak, .int .i64 an, .string at_, .bool aa] 25)) : Below W0.heap.size W0 _)
    clear hra
    go_wp2_with fail
    refine (HFW.out _ (HBW.out.trans (HB2.out.mono HBW.out.size))).mono ?_
    rintro e w' ⟨rfl, rfl⟩
    obtain ⟨a0, a1, a2, a3, k0, k1, k2, k3, k4, k5, k6, k7⟩ := HEL.out _ HB2.out
    generalize wa.alloc (Obj.cells #[.int .i64 ak, .int .i64 an, .string at_, .bool aa] 25) = wb at *
    go_wp2_with fail
    clear a0 a1 a2 a3 k0 k1 k2 k3 k4 k5 k6 k7
    have hrc := RSl.oneAt (enc := encC) (x := ⟨ck, cc, cn, ⟨xk, xn, xi, xt, xA, xc, xr⟩⟩) (MapKept.heap_alloc wb (Obj.cells #[.int .i64 ck, .int .i64 cc, .int .i64 cn, .int .i64 xk, .int .i64 xn, .int .i64 xi, .string xt, .slice xA xr.length xc] 30)).1 rfl
    have HB3 := Lib.hid (up2 HB2.out (below1 wb (Obj.cells #[.int .i64 ck, .int .i64 cc, .int .i64 cn, .int .i64 xk, .int .i64 xn, .int .i64 xi, .string xt, .slice xA xr.length xc] 30)) : Below W0.heap.size W0 _)
    refine (HFC.out _ _ (HBW.out.trans (HB3.out.mono HBW.out.size)) hrc).mono ?_
    rintro e w' ⟨rfl, rfl⟩
    clear hrc
    go_wp2_with fail
    go_ret
    exact ⟨rfl, HBW.out.trans (HB3.out.mono HBW.out.size)⟩
theorem apart_all (A1 : Option Addr) (c1 : Nat) (l : List KAct) (A2 : Option Addr) (c2 : Nat) (q : List CallE) (a : KAct) (c : CallE) (w : World) (h1 : RSl encA w A1 l) (hl1 : l.length ≤ maxLen) (ht1 : ∀ x ∈ l, x.text.size ≤ maxLen)
    (h2 : RSl encC w A2 q) (hl2 : q.length ≤ maxLen) (hin : ∀ x ∈ q, CallIn w x) (hta : a.text.size ≤ maxLen) (hca : CallIn w c) (hT : Tabs w.heap.size w) :
    Calls Tryz.prog 3 #[.slice A1 l.length c1, .slice A2 q.length c2, .agg #[.int .i64 a.kind, .int .i64 a.n, .string a.text, .bool a.ahead], .agg #[.int .i64 c.kind, .int .i64 c.c, .int .i64 c.n, .int .i64 c.x.kind, .int .i64 c.x.n, .int .i64 c.x.id, .string c.x.text, .slice c.x.A c.x.rows.length c.x.c]] w fun e w' => e = .returned (.bool true) ∧ Below w.heap.size w w' := by
  unfold maxLen at hl1 hl2 ht1 hta
  have hlight : ∀ w1, Below w.heap.size w w1 → Calls Tryz.prog 5 #[.slice A1 l.length c1] w1 fun e w' => e = .returned (.bool (lightB l)) ∧ w1 = w' := fun w1 hb => light_any c1 (h1.up hb) (by omega) (fun x hx => by have := ht1 x hx; omega)
  have hlighta : ∀ w1 A, RSl encA w1 A [a] → Calls Tryz.prog 5 #[.slice A 1 1] w1 fun e w' => e = .returned (.bool (lightB [a])) ∧ w1 = w' := fun w1 A h => light_any 1 h (by simp) (fun x hx => by obtain rfl := List.mem_singleton.1 hx; omega)
  have hone : ∀ w1 x, Below w.heap.size w w1 → CallIn w x → x.x.text.size ≤ 9223372036854775807 ∧ RSl encS w1 x.x.A x.x.rows ∧ x.x.rows.length ≤ 9223372036854775807 ∧ ∀ s ∈ x.x.rows, s.size ≤ 9223372036854775807 := fun w1 x hb this => by
    have h1 := this.t
    have h2 := Nat.le_trans this.lc this.mc
    unfold maxLen at h1 h2
    exact ⟨by omega, this.rs.up hb, by omega, fun s hs => by have := this.s s hs; unfold maxLen at this; omega⟩
  have hfew : ∀ w1, Below w.heap.size w w1 → Calls Tryz.prog 6 #[.slice A2 q.length c2] w1 fun e w' => e = .returned (.bool (fewB q)) ∧ w1 = w' := fun w1 hb => few_any c2 (h2.up hb) (by omega) (fun x hx => hone w1 x hb (hin x hx))
  have hfewc : ∀ w1 A, Below w.heap.size w w1 → RSl encC w1 A [c] → Calls Tryz.prog 6 #[.slice A 1 1] w1 fun e w' => e = .returned (.bool (fewB [c])) ∧ w1 = w' := fun w1 A hb h => few_any 1 h (by simp) (fun x hx => by obtain rfl := List.mem_singleton.1 hx; exact hone w1 _ hb hca)
  cases hall : (lightB l && lightB [a] && fewB q && fewB [c]) with
  | false => exact apart_bad A1 c1 l A2 c2 q a c w hT _ _ _ _ hall hlight hlighta hfew hfewc
  | true =>
    rw [Bool.and_eq_true, Bool.and_eq_true, Bool.and_eq_true] at hall
    obtain ⟨⟨⟨e1, e2⟩, e3⟩, e4⟩ := hall
    rw [e1] at hlight
    rw [e2] at hlighta
    rw [e3] at hfew
    rw [e4] at hfewc
    have f1 := e1
    have f2 := e2
    unfold lightB at f1 f2
    rw [Bool.and_eq_true, List.all_eq_true] at f1 f2
    have f3 := few_facts e3
    have f4 := few_facts e4
    have mk : ∀ x, CallIn w x → (x.x.text.size ≤ 40 ∧ x.x.rows.length ≤ 6 ∧ ∀ s ∈ x.x.rows, s.size ≤ 40) → CallOk w x := fun x h1 h2 => ⟨h1.rs, h1.lc, h1.mc, h2.2.1, h2.2.2, h2.1, h1.n0, h1.n1⟩
    exact apart_good A1 c1 l A2 c2 q a c w h1 (by simpa using f1.2) (fun x hx => by simpa using f1.1 x hx) h2 f3.1 (fun x hx => mk x (hin x hx) (f3.2 x hx)) (by simpa using f2.1 a (List.mem_singleton.2 rfl)) (mk c hca (f4.2 c (List.mem_singleton.2 rfl))) hT hlight hlighta hfew hfewc
end Go.Proofs.YtaofcnmajicpcaaGreatDoor
