/- KillNames: the walk (printed by genKnC.py). -/
import Derived.Test.YtnbccoelbfgmgaaGreatDoorKnE
import Derived.Test.YtnbccoelbfgmgaaGreatDoorKcF
import Derived.Test.YtnbccoelbfgmgaaGreatDoorZ22
import Derived.Test.YtnbccoelbfgmgaaGreatDoorZ23
namespace Go.Proofs.YtnbccoelbfgmgaaGreatDoor
open Go.RowKit Go.Lib
set_option linter.unusedVariables false
set_option linter.unusedSimpArgs false
theorem holdRing {w : World} {b most at_ : Nat} {L : List ByteArray} (h : Ring w b L most at_) : Hold (fun W => Ring W b L most at_) (· = b) w := ⟨h, fun w' ho => h.kept (ho.block b h.lt (fun hn => hn rfl))⟩
theorem holdPB {N : Nat} {w : World} {b B : Nat} {F : Nat → Prop} {T : Tx} (h : PB N w b F T B) : Hold (fun W => PB N W b F T B) F w := ⟨h, fun w' ho => h.only ho (fun k hk hz => hz hk)⟩
theorem holdSl {w : World} {B g n c : Nat} {L : List ByteArray} (h0 : 0 < L.length) (h : ROwn encStr 9 1 B w (.slice (some ⟨g, 0, none⟩) n c) L) : Hold (fun W => ROwn encStr 9 1 B W (.slice (some ⟨g, 0, none⟩) n c) L) (· = g) w := ⟨h, fun w' ho => h.kept (fun g' hg => by
  have e : g = g' := by simpa [Value.ownBlock] using hg
  subst e
  exact ho.block g (h.lt rfl) (fun hn => hn rfl))⟩
theorem holdBlk {w : World} {b : Nat} {T : TypeId} {cs : Array Value} (h : Blk w b T cs) : Hold (fun W => Blk W b T cs) (· = b) w := ⟨h, fun w' ho => h.only ho (fun hn => hn rfl)⟩
theorem no_foot {m : List (Int × Reg)} {mc : List (Int × Con)} (h : conM m = mc) (hr : ∀ p ∈ mc, p.2.rows = []) (g : Nat) : ¬ Foot m g := by
  rintro ⟨p, hp, h0, _⟩
  have h1 : (p.1, p.2.con) ∈ mc := by rw [← h]; exact List.mem_map.2 ⟨p, hp, rfl⟩
  have h2 : p.2.rows = [] := hr _ h1
  rw [h2] at h0; exact absurd h0 (by simp)
theorem holdRegs {w : World} {b bm : Nat} {mc : List (Int × Con)} (h : RegsC w b bm mc) (hr : ∀ p ∈ mc, p.2.rows = []) : Hold (fun W => RegsC W b bm mc) (fun k => k = b ∨ k = bm) w := by
  obtain ⟨m, h, e⟩ := h
  exact ⟨⟨m, h, e⟩, fun w' ho => ⟨m, h.only ho (fun hn => hn (.inl rfl)) (fun hn => hn (.inr rfl)) (fun p hp h0 g o hA => absurd (⟨p, hp, h0, o, hA⟩ : Foot m g) (no_foot e hr g)), e⟩⟩
section
variable {w : World} {N : Nat}
set_option maxRecDepth 100000 in
set_option maxHeartbeats 16000000 in
theorem knames_true (hT : Tabs N w) (hR : Rules N w) (hN : N ≤ w.heap.size) : Calls Tryz.prog 3 #[] w fun r w' => r = .returned (.bool true) ∧ Below w.heap.size w w' := by
  have HT := Lib.hid hT
  have HR := Lib.hid hR
  have HN := Lib.hid hN
  have ZZ0 := Lib.hid (Nat.le_refl w.heap.size)
  have BB0 := Lib.hid (Below.refl w.heap.size w)
  have TB := fun (w' : World) (h : Below w.heap.size w w') => HT.out.up h
  have RB := fun (w' : World) (h : Below w.heap.size w w') => HR.out.up h
  have HTB := Lib.hid TB
  have HRB := Lib.hid RB
  clear hT hR hN TB RB
  go_enter Tryz.func3, Tryz.ntmps3
  go_wp2_with fail
  refine (knew_ok 2 w (by omega) (by omega)).mono ?_
  rintro e w1 ⟨rfl, hr, hb⟩
  have ZZ1 := Lib.hid (And.intro ZZ0.out (And.intro hb.size ((hr.lt : w.heap.size < w1.heap.size))))
  have BB1 := Lib.hid (BB0.out.trans (hb.mono (by have zz := ZZ0.out; omega)))
  have R_1 := Lib.hid (holdRing (show Ring w1 w.heap.size [] 2 0 from ⟨_, _, hr, rfl⟩))
  clear hr
  clear hb BB0 
  go_wp2_with fail
  refine (of25_ok (HTB.out w1 BB1.out) (HRB.out w1 BB1.out) (by have zz := ZZ1.out; have := HN.out; omega) ⟨#[97, 98, 99, 10, 100, 101, 102, 103]⟩ (by decide) (by decide +kernel)).mono ?_
  rintro e w2 ⟨b, T, rfl, hb, hp, hO⟩
  have ZZ2 := Lib.hid (And.intro ZZ1.out hb.size)
  have BB2 := Lib.hid (BB1.out.trans (hb.mono (by have zz := ZZ1.out; omega)))
  have R_2 := Lib.hid (R_1.out.up hb)
  have B_2 := Lib.hid (holdPB hp)
  have OT := Lib.hid hO
  clear hp hO
  clear hb BB1 R_1
  go_wp2_with fail
  refine (lives_true (HTB.out w2 BB2.out) (by have zz := ZZ2.out; have := HN.out; omega)).mono ?_
  rintro e w3 ⟨rfl, hb⟩
  have ZZ3 := Lib.hid (And.intro ZZ2.out hb.size)
  have BB3 := Lib.hid (BB2.out.trans (hb.mono (by have zz := ZZ2.out; omega)))
  have R_3 := Lib.hid (R_2.out.up hb)
  have B_3 := Lib.hid (B_2.out.up hb)
  clear hb BB2 R_2 B_2
  go_wp2_with fail
  refine (kp1_lit (R_3.out.at_.cApp (N := N) ⟨#[98]⟩ true (by decide +kernel) (HTB.out w3 BB3.out) HN.out) (E := 0) (L := [⟨#[98]⟩]) (k := 0) (by decide +kernel) (by decide +kernel) (by decide +kernel)).mono ?_
  rintro e w4 ⟨rfl, hr, ho⟩
  have ZZ4 := Lib.hid (And.intro ZZ3.out ho.size)
  have BB4 := Lib.hid (BB3.out.trans (ho.below (by have zz := ZZ3.out; omega) (fun k hk => by have zz := ZZ3.out; (try unfold grow at hk); omega)))
  have B_4 := Lib.hid (B_3.out.only ho (fun k hk hz => by have zz := ZZ3.out; (try unfold grow at hz); omega))
  have R_4 := Lib.hid (holdRing hr)
  clear hr
  clear ho BB3 B_3 R_3
  go_wp2_with fail
  refine (kp1_lit (R_4.out.at_.cApp (N := N) ⟨#[99]⟩ false (by decide +kernel) (HTB.out w4 BB4.out) HN.out) (E := 0) (L := [⟨#[98, 99]⟩]) (k := 0) (by decide +kernel) (by decide +kernel) (by decide +kernel)).mono ?_
  rintro e w5 ⟨rfl, hr, ho⟩
  have ZZ5 := Lib.hid (And.intro ZZ4.out ho.size)
  have BB5 := Lib.hid (BB4.out.trans (ho.below (by have zz := ZZ4.out; omega) (fun k hk => by have zz := ZZ4.out; (try unfold grow at hk); omega)))
  have B_5 := Lib.hid (B_4.out.only ho (fun k hk hz => by have zz := ZZ4.out; (try unfold grow at hz); omega))
  have R_5 := Lib.hid (holdRing hr)
  clear hr
  clear ho BB4 B_4 R_4
  go_wp2_with fail
  refine (kp1_lit (R_5.out.at_.cApp (N := N) ⟨#[99]⟩ true (by decide +kernel) (HTB.out w5 BB5.out) HN.out) (E := 0) (L := [⟨#[99, 98, 99]⟩]) (k := 0) (by decide +kernel) (by decide +kernel) (by decide +kernel)).mono ?_
  rintro e w6 ⟨rfl, hr, ho⟩
  have ZZ6 := Lib.hid (And.intro ZZ5.out ho.size)
  have BB6 := Lib.hid (BB5.out.trans (ho.below (by have zz := ZZ5.out; omega) (fun k hk => by have zz := ZZ5.out; (try unfold grow at hk); omega)))
  have B_6 := Lib.hid (B_5.out.only ho (fun k hk hz => by have zz := ZZ5.out; (try unfold grow at hz); omega))
  have R_6 := Lib.hid (holdRing hr)
  clear hr
  clear ho BB5 B_5 R_5
  go_wp2_with fail
  refine (kp2_lit (R_6.out.at_.cYank 1) (x := ⟨#[99, 98, 99]⟩) (E := 0) (L := [⟨#[99, 98, 99]⟩]) (k := 0) (by decide +kernel) (by decide +kernel) (by decide +kernel) (by decide +kernel)).mono ?_
  rintro e w7 ⟨rfl, hr, ho⟩
  have ZZ7 := Lib.hid (And.intro ZZ6.out ho.size)
  have BB7 := Lib.hid (BB6.out.trans (ho.below (by have zz := ZZ6.out; omega) (fun k hk => by have zz := ZZ6.out; (try unfold grow at hk); omega)))
  have B_7 := Lib.hid (B_6.out.only ho (fun k hk hz => by have zz := ZZ6.out; (try unfold grow at hz); omega))
  have R_7 := Lib.hid (holdRing hr)
  clear hr
  clear ho BB6 B_6 R_6
  go_wp2_with fail
  refine (kp1_lit (R_7.out.at_.cKill (N := N) ⟨#[100]⟩ (by decide) (HTB.out w7 BB7.out)) (E := 0) (L := [⟨#[100]⟩, ⟨#[99, 98, 99]⟩]) (k := 0) (by decide +kernel) (by decide +kernel) (by decide +kernel)).mono ?_
  rintro e w8 ⟨rfl, hr, ho⟩
  have ZZ8 := Lib.hid (And.intro ZZ7.out ho.size)
  have BB8 := Lib.hid (BB7.out.trans (ho.below (by have zz := ZZ7.out; omega) (fun k hk => by have zz := ZZ7.out; (try unfold grow at hk); omega)))
  have B_8 := Lib.hid (B_7.out.only ho (fun k hk hz => by have zz := ZZ7.out; (try unfold grow at hz); omega))
  have R_8 := Lib.hid (holdRing hr)
  clear hr
  clear ho BB7 B_7 R_7
  go_wp2_with fail
  refine (kp1_lit (R_8.out.at_.cKill (N := N) ⟨#[101]⟩ (by decide) (HTB.out w8 BB8.out)) (E := 0) (L := [⟨#[101]⟩, ⟨#[100]⟩]) (k := 0) (by decide +kernel) (by decide +kernel) (by decide +kernel)).mono ?_
  rintro e w9 ⟨rfl, hr, ho⟩
  have ZZ9 := Lib.hid (And.intro ZZ8.out ho.size)
  have BB9 := Lib.hid (BB8.out.trans (ho.below (by have zz := ZZ8.out; omega) (fun k hk => by have zz := ZZ8.out; (try unfold grow at hk); omega)))
  have B_9 := Lib.hid (B_8.out.only ho (fun k hk hz => by have zz := ZZ8.out; (try unfold grow at hz); omega))
  have R_9 := Lib.hid (holdRing hr)
  clear hr
  clear ho BB8 B_8 R_8
  go_wp2_with fail
  refine (knew_bad 61 w9 (.inr (by omega))).mono ?_
  rintro e w10 ⟨rfl, rfl⟩
  go_wp2_with fail
  refine (knew_ok 1 w9 (by omega) (by omega)).mono ?_
  rintro e w10 ⟨rfl, hr, hb⟩
  have ZZ10 := Lib.hid (And.intro ZZ9.out (And.intro hb.size ((hr.lt : w9.heap.size < w10.heap.size))))
  have BB10 := Lib.hid (BB9.out.trans (hb.mono (by have zz := ZZ9.out; omega)))
  have R_10 := Lib.hid (R_9.out.up hb)
  have B_10 := Lib.hid (B_9.out.up hb)
  have Q_10 := Lib.hid (holdRing (show Ring w10 w9.heap.size [] 1 0 from ⟨_, _, hr, rfl⟩))
  clear hr
  clear hb BB9 R_9 B_9
  go_wp2_with fail
  refine (kp2_lit (Q_10.out.at_.cYank 1) (x := ⟨#[]⟩) (E := 13) (L := ([] : List ByteArray)) (k := 0) (by decide +kernel) (by decide +kernel) (by decide +kernel) (by decide +kernel)).mono ?_
  rintro e w11 ⟨rfl, hr, ho⟩
  have ZZ11 := Lib.hid (And.intro ZZ10.out ho.size)
  have BB11 := Lib.hid (BB10.out.trans (ho.below (by have zz := ZZ10.out; omega) (fun k hk => by have zz := ZZ10.out; (try unfold grow at hk); omega)))
  have R_11 := Lib.hid (R_10.out.only ho (fun k hk hz => by have zz := ZZ10.out; (try unfold grow at hz); omega))
  have B_11 := Lib.hid (B_10.out.only ho (fun k hk hz => by have zz := ZZ10.out; (try unfold grow at hz); omega))
  have Q_11 := Lib.hid (holdRing hr)
  clear hr
  clear ho BB10 R_10 B_10 Q_10
  go_wp2_with fail
  refine (cutCallA B_11.out.at_ OT.out.wide (OT.out.cs.trans csA_is.2)).mono ?_
  rintro e w12 ⟨v, rfl, hown, hb⟩
  obtain ⟨g, c, hv, hg1, hg2⟩ := own_n hown (rfl : List.length _ = 2) (by decide)
  subst hv
  have ZZ12 := Lib.hid (And.intro ZZ11.out (And.intro hb.size ((And.intro hg1 hg2 : w11.heap.size ≤ g ∧ g < w12.heap.size))))
  have BB12 := Lib.hid (BB11.out.trans (hb.mono (by have zz := ZZ11.out; omega)))
  have R_12 := Lib.hid (R_11.out.up hb)
  have B_12 := Lib.hid (B_11.out.up hb)
  have Q_12 := Lib.hid (Q_11.out.up hb)
  have L_12 := Lib.hid (holdSl (g := g) (by decide) hown)
  have OWL := Lib.hid hown
  clear hown hg1 hg2
  clear hb BB11 R_11 B_11 Q_11
  go_wp2_with fail
  refine (eraseCallA (F := (fun k => w1.heap.size ≤ k ∧ k < w2.heap.size)) (HTB.out w12 BB12.out) (HRB.out w12 BB12.out) ⟨B_12.out.at_, OT.out.wide, OT.out.cs.trans csA_is.2, OT.out.g⟩ (fun k hk => by have zz := ZZ12.out; have := HN.out; omega)).mono ?_
  rintro e w13 ⟨rfl, ho, T1, hW1⟩
  have ZZ13 := Lib.hid (And.intro ZZ12.out ho.size)
  have BB13 := Lib.hid (BB12.out.trans (ho.below (by have zz := ZZ12.out; omega) (fun k hk => by have zz := ZZ12.out; (try unfold grow at hk); omega)))
  have R_13 := Lib.hid (R_12.out.only ho (fun k hk hz => by have zz := ZZ12.out; (try unfold grow at hz); omega))
  have Q_13 := Lib.hid (Q_12.out.only ho (fun k hk hz => by have zz := ZZ12.out; (try unfold grow at hz); omega))
  have L_13 := Lib.hid (L_12.out.only ho (fun k hk hz => by have zz := ZZ12.out; (try unfold grow at hz); omega))
  have B_13 := Lib.hid (holdPB (hW1.pb.bound.mono (F' := (fun k => (w1.heap.size ≤ k ∧ k < w2.heap.size) ∨ (w12.heap.size ≤ k ∧ k < w13.heap.size))) (fun k hk => by unfold grow at hk; omega) (Nat.le_refl _)))
  have W1c := Lib.hid (⟨hW1.wd, hW1.cs, hW1.g⟩ : _ ∧ _ ∧ _)
  clear hW1
  clear ho BB12 R_12 Q_12 L_12 B_12
  go_wp2_with fail
  have hb := below1 w13 (.cells #[.string ⟨#[88]⟩, .string ⟨#[89]⟩, .string ⟨#[90]⟩] 9)
  have hz : (w13.alloc (.cells #[.string ⟨#[88]⟩, .string ⟨#[89]⟩, .string ⟨#[90]⟩] 9)).heap.size = w13.heap.size + 1 := by simp
  have hsl : RSl encStr (w13.alloc (.cells #[.string ⟨#[88]⟩, .string ⟨#[89]⟩, .string ⟨#[90]⟩] 9)) (some ⟨w13.heap.size, 0, none⟩) ssA := RSl.arr (MapKept.heap_alloc w13 _).1 rfl
  generalize w13.alloc (.cells #[.string ⟨#[88]⟩, .string ⟨#[89]⟩, .string ⟨#[90]⟩] 9) = w14 at *
  have ZZ14 := Lib.hid (And.intro ZZ13.out (And.intro hb.size hz))
  have BB14 := Lib.hid (BB13.out.trans (hb.mono (by have zz := ZZ13.out; omega)))
  have R_14 := Lib.hid (R_13.out.up hb)
  have B_14 := Lib.hid (B_13.out.up hb)
  have Q_14 := Lib.hid (Q_13.out.up hb)
  have L_14 := Lib.hid (L_13.out.up hb)
  clear hb hz BB13 R_13 B_13 Q_13 L_13
  refine (pasteCallA (F := (fun k => (w1.heap.size ≤ k ∧ k < w2.heap.size) ∨ (w12.heap.size ≤ k ∧ k < w13.heap.size))) (HTB.out w14 BB14.out) (HRB.out w14 BB14.out) ⟨B_14.out.at_, W1c.out.1, W1c.out.2.1, W1c.out.2.2⟩ (by omega) (fun k hk => by have zz := ZZ14.out; have := HN.out; omega) hsl (fun g o z he hk => by cases he; have zz := ZZ14.out; omega)).mono ?_
  rintro e w15 ⟨rfl, ho, T2, hp2, hc2⟩
  have ZZ15 := Lib.hid (And.intro ZZ14.out ho.size)
  have BB15 := Lib.hid (BB14.out.trans (ho.below (by have zz := ZZ14.out; omega) (fun k hk => by have zz := ZZ14.out; (try unfold grow at hk); omega)))
  have R_15 := Lib.hid (R_14.out.only ho (fun k hk hz => by have zz := ZZ14.out; (try unfold grow at hz); omega))
  have Q_15 := Lib.hid (Q_14.out.only ho (fun k hk hz => by have zz := ZZ14.out; (try unfold grow at hz); omega))
  have L_15 := Lib.hid (L_14.out.only ho (fun k hk hz => by have zz := ZZ14.out; (try unfold grow at hz); omega))
  have B_15 := Lib.hid (holdPB (hp2.bound.mono (F' := (fun k => ((w1.heap.size ≤ k ∧ k < w2.heap.size) ∨ (w12.heap.size ≤ k ∧ k < w13.heap.size)) ∨ (w14.heap.size ≤ k ∧ k < w15.heap.size))) (fun k hk => by unfold grow at hk; omega) (Nat.le_refl _)))
  have CF := Lib.hid hc2
  clear hp2 hc2 hsl
  clear ho BB14 R_14 Q_14 L_14 B_14
  go_wp2_with fail
  refine (regs_new w15).mono ?_
  rintro e w16 ⟨bs, bm, rfl, hreg, hs1, hs2, hb⟩
  have ZZ16 := Lib.hid (And.intro ZZ15.out (And.intro hb.size ((And.intro (And.intro hs1 hs2) (And.intro hreg.lt hreg.im.lt) : (w15.heap.size ≤ bs ∧ w15.heap.size ≤ bm) ∧ bs < w16.heap.size ∧ bm < w16.heap.size))))
  have BB16 := Lib.hid (BB15.out.trans (hb.mono (by have zz := ZZ15.out; omega)))
  have R_16 := Lib.hid (R_15.out.up hb)
  have B_16 := Lib.hid (B_15.out.up hb)
  have Q_16 := Lib.hid (Q_15.out.up hb)
  have L_16 := Lib.hid (L_15.out.up hb)
  have S_16 := Lib.hid (holdRegs (mc := []) ⟨[], hreg, rfl⟩ (by simp))
  clear hreg hs1 hs2
  clear hb BB15 R_15 B_15 Q_15 L_15
  go_wp2_with fail
  refine (regsSet (N := N) S_16.out.at_ 97 2 2305843009213693951 0 ⟨#[120]⟩ (by decide) (HTB.out w16 BB16.out) (by have zz := ZZ16.out; have := HN.out; omega) (E := 0) (mc' := [((97 : Int), (⟨2, 2305843009213693951, 0, ⟨#[]⟩, []⟩ : Con))]) (by kernel_rfl) (by kernel_rfl)).mono ?_
  rintro e w17 ⟨rfl, hr, ho⟩
  have ZZ17 := Lib.hid (And.intro ZZ16.out ho.size)
  have BB17 := Lib.hid (BB16.out.trans (ho.below (by have zz := ZZ16.out; omega) (fun k hk => by have zz := ZZ16.out; (try unfold grow at hk); omega)))
  have R_17 := Lib.hid (R_16.out.only ho (fun k hk hz => by have zz := ZZ16.out; (try unfold grow at hz); omega))
  have B_17 := Lib.hid (B_16.out.only ho (fun k hk hz => by have zz := ZZ16.out; (try unfold grow at hz); omega))
  have Q_17 := Lib.hid (Q_16.out.only ho (fun k hk hz => by have zz := ZZ16.out; (try unfold grow at hz); omega))
  have L_17 := Lib.hid (L_16.out.only ho (fun k hk hz => by have zz := ZZ16.out; (try unfold grow at hz); omega))
  have S_17 := Lib.hid (holdRegs hr (by simp))
  clear hr
  clear ho BB16 R_16 B_16 Q_16 L_16 S_16
  go_wp2_with fail
  refine (regsGet S_17.out.at_ 97 (k := 2) (n := 2305843009213693951) (id := 0) (t := ⟨#[]⟩) (by kernel_rfl)).mono ?_
  rintro e w18 ⟨A, cp, rfl, hb⟩
  have ZZ18 := Lib.hid (And.intro ZZ17.out hb.size)
  have BB18 := Lib.hid (BB17.out.trans (hb.mono (by have zz := ZZ17.out; omega)))
  have R_18 := Lib.hid (R_17.out.up hb)
  have B_18 := Lib.hid (B_17.out.up hb)
  have Q_18 := Lib.hid (Q_17.out.up hb)
  have L_18 := Lib.hid (L_17.out.up hb)
  have S_18 := Lib.hid (S_17.out.up hb)
  clear hb BB17 R_17 B_17 Q_17 L_17 S_17
  go_wp2_with fail
  have hb := below1 w18 (.cells #[.int .i64 2, .int .i64 2305843009213693951, .int .i64 0, .string ⟨#[]⟩, .slice A 0 cp] 43)
  have hz : (w18.alloc (.cells #[.int .i64 2, .int .i64 2305843009213693951, .int .i64 0, .string ⟨#[]⟩, .slice A 0 cp] 43)).heap.size = w18.heap.size + 1 := by simp
  have hvv := Blk.made w18 43 #[.int .i64 2, .int .i64 2305843009213693951, .int .i64 0, .string ⟨#[]⟩, .slice A 0 cp]
  generalize w18.alloc (.cells #[.int .i64 2, .int .i64 2305843009213693951, .int .i64 0, .string ⟨#[]⟩, .slice A 0 cp] 43) = w19 at *
  have ZZ19 := Lib.hid (And.intro ZZ18.out (And.intro hb.size hz))
  have BB19 := Lib.hid (BB18.out.trans (hb.mono (by have zz := ZZ18.out; omega)))
  have R_19 := Lib.hid (R_18.out.up hb)
  have B_19 := Lib.hid (B_18.out.up hb)
  have Q_19 := Lib.hid (Q_18.out.up hb)
  have L_19 := Lib.hid (L_18.out.up hb)
  have S_19 := Lib.hid (S_18.out.up hb)
  have V_19 := Lib.hid (holdBlk hvv)
  clear hb hz BB18 R_18 B_18 Q_18 L_18 S_18
  clear hvv
  refine (regsAdd S_19.out.at_ 97 1 (by omega) (by omega) (E := 2) (mc' := [((97 : Int), (⟨2, 2305843009213693951, 0, ⟨#[]⟩, []⟩ : Con))]) (by kernel_rfl) (by kernel_rfl)).mono ?_
  rintro e w20 ⟨rfl, hr, ho⟩
  have ZZ20 := Lib.hid (And.intro ZZ19.out ho.size)
  have BB20 := Lib.hid (BB19.out.trans (ho.below (by have zz := ZZ19.out; omega) (fun k hk => by have zz := ZZ19.out; (try unfold grow at hk); omega)))
  have R_20 := Lib.hid (R_19.out.only ho (fun k hk hz => by have zz := ZZ19.out; (try unfold grow at hz); omega))
  have B_20 := Lib.hid (B_19.out.only ho (fun k hk hz => by have zz := ZZ19.out; (try unfold grow at hz); omega))
  have Q_20 := Lib.hid (Q_19.out.only ho (fun k hk hz => by have zz := ZZ19.out; (try unfold grow at hz); omega))
  have L_20 := Lib.hid (L_19.out.only ho (fun k hk hz => by have zz := ZZ19.out; (try unfold grow at hz); omega))
  have V_20 := Lib.hid (V_19.out.only ho (fun k hk hz => by have zz := ZZ19.out; (try unfold grow at hz); omega))
  have S_20 := Lib.hid (holdRegs hr (by simp))
  clear hr
  clear ho BB19 R_19 B_19 Q_19 L_19 V_19 S_19
  go_wp2_with fail
  refine (regsAdd S_20.out.at_ 97 (-1) (by omega) (by omega) (E := 0) (mc' := [((97 : Int), (⟨2, 2305843009213693950, 0, ⟨#[]⟩, []⟩ : Con))]) (by kernel_rfl) (by kernel_rfl)).mono ?_
  rintro e w21 ⟨rfl, hr, ho⟩
  have ZZ21 := Lib.hid (And.intro ZZ20.out ho.size)
  have BB21 := Lib.hid (BB20.out.trans (ho.below (by have zz := ZZ20.out; omega) (fun k hk => by have zz := ZZ20.out; (try unfold grow at hk); omega)))
  have R_21 := Lib.hid (R_20.out.only ho (fun k hk hz => by have zz := ZZ20.out; (try unfold grow at hz); omega))
  have B_21 := Lib.hid (B_20.out.only ho (fun k hk hz => by have zz := ZZ20.out; (try unfold grow at hz); omega))
  have Q_21 := Lib.hid (Q_20.out.only ho (fun k hk hz => by have zz := ZZ20.out; (try unfold grow at hz); omega))
  have L_21 := Lib.hid (L_20.out.only ho (fun k hk hz => by have zz := ZZ20.out; (try unfold grow at hz); omega))
  have V_21 := Lib.hid (V_20.out.only ho (fun k hk hz => by have zz := ZZ20.out; (try unfold grow at hz); omega))
  have S_21 := Lib.hid (holdRegs hr (by simp))
  clear hr
  clear ho BB20 R_20 B_20 Q_20 L_20 V_20 S_20
  go_wp2_with fail
  refine (regsSet (N := N) S_21.out.at_ 98 1 0 0 ⟨#[255]⟩ (by decide) (HTB.out w21 BB21.out) (by have zz := ZZ21.out; have := HN.out; omega) (E := 5) (mc' := [((97 : Int), (⟨2, 2305843009213693950, 0, ⟨#[]⟩, []⟩ : Con))]) (by kernel_rfl) (by kernel_rfl)).mono ?_
  rintro e w22 ⟨rfl, hr, ho⟩
  have ZZ22 := Lib.hid (And.intro ZZ21.out ho.size)
  have BB22 := Lib.hid (BB21.out.trans (ho.below (by have zz := ZZ21.out; omega) (fun k hk => by have zz := ZZ21.out; (try unfold grow at hk); omega)))
  have R_22 := Lib.hid (R_21.out.only ho (fun k hk hz => by have zz := ZZ21.out; (try unfold grow at hz); omega))
  have B_22 := Lib.hid (B_21.out.only ho (fun k hk hz => by have zz := ZZ21.out; (try unfold grow at hz); omega))
  have Q_22 := Lib.hid (Q_21.out.only ho (fun k hk hz => by have zz := ZZ21.out; (try unfold grow at hz); omega))
  have L_22 := Lib.hid (L_21.out.only ho (fun k hk hz => by have zz := ZZ21.out; (try unfold grow at hz); omega))
  have V_22 := Lib.hid (V_21.out.only ho (fun k hk hz => by have zz := ZZ21.out; (try unfold grow at hz); omega))
  have S_22 := Lib.hid (holdRegs hr (by simp))
  clear hr
  clear ho BB21 R_21 B_21 Q_21 L_21 V_21 S_21
  go_wp2_with fail
  refine (regsSet (N := N) S_22.out.at_ (-1) 1 0 0 ⟨#[]⟩ (by decide) (HTB.out w22 BB22.out) (by have zz := ZZ22.out; have := HN.out; omega) (E := 2) (mc' := [((97 : Int), (⟨2, 2305843009213693950, 0, ⟨#[]⟩, []⟩ : Con))]) (by kernel_rfl) (by kernel_rfl)).mono ?_
  rintro e w23 ⟨rfl, hr, ho⟩
  have ZZ23 := Lib.hid (And.intro ZZ22.out ho.size)
  have BB23 := Lib.hid (BB22.out.trans (ho.below (by have zz := ZZ22.out; omega) (fun k hk => by have zz := ZZ22.out; (try unfold grow at hk); omega)))
  have R_23 := Lib.hid (R_22.out.only ho (fun k hk hz => by have zz := ZZ22.out; (try unfold grow at hz); omega))
  have B_23 := Lib.hid (B_22.out.only ho (fun k hk hz => by have zz := ZZ22.out; (try unfold grow at hz); omega))
  have Q_23 := Lib.hid (Q_22.out.only ho (fun k hk hz => by have zz := ZZ22.out; (try unfold grow at hz); omega))
  have L_23 := Lib.hid (L_22.out.only ho (fun k hk hz => by have zz := ZZ22.out; (try unfold grow at hz); omega))
  have V_23 := Lib.hid (V_22.out.only ho (fun k hk hz => by have zz := ZZ22.out; (try unfold grow at hz); omega))
  have S_23 := Lib.hid (holdRegs hr (by simp))
  clear hr
  clear ho BB22 R_22 B_22 Q_22 L_22 V_22 S_22
  go_wp2_with fail
  refine (regsDrop S_23.out.at_ 98 (E := 8) (mc' := [((97 : Int), (⟨2, 2305843009213693950, 0, ⟨#[]⟩, []⟩ : Con))]) (by kernel_rfl) (by kernel_rfl)).mono ?_
  rintro e w24 ⟨rfl, hr, ho⟩
  have ZZ24 := Lib.hid (And.intro ZZ23.out ho.size)
  have BB24 := Lib.hid (BB23.out.trans (ho.below (by have zz := ZZ23.out; omega) (fun k hk => by have zz := ZZ23.out; (try unfold grow at hk); omega)))
  have R_24 := Lib.hid (R_23.out.only ho (fun k hk hz => by have zz := ZZ23.out; (try unfold grow at hz); omega))
  have B_24 := Lib.hid (B_23.out.only ho (fun k hk hz => by have zz := ZZ23.out; (try unfold grow at hz); omega))
  have Q_24 := Lib.hid (Q_23.out.only ho (fun k hk hz => by have zz := ZZ23.out; (try unfold grow at hz); omega))
  have L_24 := Lib.hid (L_23.out.only ho (fun k hk hz => by have zz := ZZ23.out; (try unfold grow at hz); omega))
  have V_24 := Lib.hid (V_23.out.only ho (fun k hk hz => by have zz := ZZ23.out; (try unfold grow at hz); omega))
  have S_24 := Lib.hid (holdRegs hr (by simp))
  clear hr
  clear ho BB23 R_23 B_23 Q_23 L_23 V_23 S_23
  go_wp2_with fail
  obtain ⟨XB, hXB, hx1, hx2, hx3⟩ := bigX
  have ht := times_ok 120 65536 (by omega) w24
  rw [show repB 120 1 = (⟨#[120]⟩ : ByteArray) from rfl, ← hXB] at ht
  have HXB := Lib.hid (⟨hx1, hx2, hx3⟩ : _ ∧ _ ∧ _)
  clear hXB hx1 hx2 hx3
  refine ht.mono ?_
  rintro e wt ⟨rfl, rfl⟩
  clear ht
  go_wp2_with fail
  refine (kp1_lit (Q_24.out.at_.cKill (N := N) XB (by have := HXB.out; omega) (HTB.out w24 BB24.out)) (E := 0) (L := [XB]) (k := 0) (by rw [(killBig HXB.out.1).1]; rfl) (killBig HXB.out.1).2.1 (killBig HXB.out.1).2.2).mono ?_
  rintro e w25 ⟨rfl, hr, ho⟩
  have ZZ25 := Lib.hid (And.intro ZZ24.out ho.size)
  have BB25 := Lib.hid (BB24.out.trans (ho.below (by have zz := ZZ24.out; omega) (fun k hk => by have zz := ZZ24.out; (try unfold grow at hk); omega)))
  have R_25 := Lib.hid (R_24.out.only ho (fun k hk hz => by have zz := ZZ24.out; (try unfold grow at hz); omega))
  have B_25 := Lib.hid (B_24.out.only ho (fun k hk hz => by have zz := ZZ24.out; (try unfold grow at hz); omega))
  have L_25 := Lib.hid (L_24.out.only ho (fun k hk hz => by have zz := ZZ24.out; (try unfold grow at hz); omega))
  have S_25 := Lib.hid (S_24.out.only ho (fun k hk hz => by have zz := ZZ24.out; (try unfold grow at hz); omega))
  have V_25 := Lib.hid (V_24.out.only ho (fun k hk hz => by have zz := ZZ24.out; (try unfold grow at hz); omega))
  have Q_25 := Lib.hid (holdRing hr)
  clear hr
  clear ho BB24 R_24 B_24 L_24 S_24 V_24 Q_24
  go_wp2_with fail
  have ht := times_ok 10 255 (by omega) w25
  rw [show repB 10 1 = (⟨#[10]⟩ : ByteArray) from rfl] at ht
  have hs10 : (repB 10 255).size ≤ 1000 := by rw [repB_size]; omega
  refine ht.mono ?_
  rintro e wt ⟨rfl, rfl⟩
  clear ht
  go_wp2_with fail
  all_goals (try (exfalso; omega))
  obtain ⟨SW, hSW⟩ : ∃ S, S = strW := ⟨_, rfl⟩
  rw [show repB 10 255 ++ (⟨#[9, 9, 9, 9]⟩ : ByteArray) = SW from hSW.symm]
  have HSW := Lib.hid (show (charsD SW.data.toList).isSome = true ∧ chrs SW = csW 255 ∧ SW.size = 259 from hSW ▸ strW_ok)
  clear hSW hs10
  refine (of25_ok (HTB.out w25 BB25.out) (HRB.out w25 BB25.out) (by have zz := ZZ25.out; have := HN.out; omega) SW (by have := HSW.out; omega) HSW.out.1).mono ?_
  rintro e w26 ⟨bw, TW, rfl, hb, hp, hO⟩
  have ZZ26 := Lib.hid (And.intro ZZ25.out hb.size)
  have BB26 := Lib.hid (BB25.out.trans (hb.mono (by have zz := ZZ25.out; omega)))
  have R_26 := Lib.hid (R_25.out.up hb)
  have B_26 := Lib.hid (B_25.out.up hb)
  have Q_26 := Lib.hid (Q_25.out.up hb)
  have L_26 := Lib.hid (L_25.out.up hb)
  have S_26 := Lib.hid (S_25.out.up hb)
  have V_26 := Lib.hid (V_25.out.up hb)
  have W_26 := Lib.hid (holdPB hp)
  have OW := Lib.hid hO
  clear hp hO
  clear hb BB25 R_25 B_25 Q_25 L_25 S_25 V_25
  go_wp2_with fail
  refine (cutCallW W_26.out.at_ OW.out.wide (OW.out.cs.trans HSW.out.2.1)).mono ?_
  rintro e w27 ⟨v, rfl, hown, hb⟩
  obtain ⟨gw, cw, hv, hg1, hg2⟩ := own_n hown (cutW_ends OW.out.wide (OW.out.cs.trans HSW.out.2.1)).2.2 (by decide)
  subst hv
  have ZZ27 := Lib.hid (And.intro ZZ26.out hb.size)
  have BB27 := Lib.hid (BB26.out.trans (hb.mono (by have zz := ZZ26.out; omega)))
  have R_27 := Lib.hid (R_26.out.up hb)
  have B_27 := Lib.hid (B_26.out.up hb)
  have Q_27 := Lib.hid (Q_26.out.up hb)
  have L_27 := Lib.hid (L_26.out.up hb)
  have S_27 := Lib.hid (S_26.out.up hb)
  have V_27 := Lib.hid (V_26.out.up hb)
  have W_27 := Lib.hid (W_26.out.up hb)
  have hends := cutW_ends OW.out.wide (OW.out.cs.trans HSW.out.2.1)
  have hrs := own_rsl hown
  obtain ⟨g1, o1, q1, _, q2⟩ := hrs.at_ eltStr hends.1
  cases q1
  obtain ⟨g2, o2, q3, _, q4⟩ := hrs.at_ eltStr hends.2.1
  cases q3
  have k0 := q2 0 _ rfl
  have k1 := q4 0 _ rfl
  simp only [Nat.zero_mul, Nat.zero_add, Nat.mul_one, Nat.add_zero] at k0 k1
  have KW := Lib.hid (⟨k0, k1⟩ : _ ∧ _)
  have GW := Lib.hid (⟨hg1, hg2⟩ : _ ∧ _)
  clear hends hrs q2 q4 k0 k1 hg1 hg2 hown
  clear hb BB26 R_26 B_26 Q_26 L_26 S_26 V_26 W_26
  go_wp2_with fail
  have C0 : ∀ x : UpW w27.heap.size w27, x.w.cell? ⟨gw, 0, none⟩ = some (.string (repB 32 256)) := fun x => cell_up KW.out.1 x.up
  have C1 : ∀ x : UpW w27.heap.size w27, x.w.cell? ⟨gw, 255, none⟩ = some (.string ⟨#[9, 9, 9, 9]⟩) := fun x => cell_up KW.out.2 x.up
  have ht := fun w => times_ok 32 256 (by omega) w
  rw [show repB 32 1 = (⟨#[32]⟩ : ByteArray) from rfl] at ht
  obtain ⟨SP, hSP⟩ : ∃ S, S = repB 32 256 := ⟨_, rfl⟩
  rw [← hSP] at ht C0
  have HTM := Lib.hid ht
  have f1 : (SP.toList == SP.toList) = true := by simp
  clear hSP ht
  refine wp_region_mix w27.heap.size 24 [([0, 1, 2, 3, 4, 5, 6, 7, 8, 9, 10, 11, 12, 13, 14], 15)] [16, 17, 18, 19, 20, 21, 22, 23] (by kernel_rfl) (fun c d v a w h => by cases d <;> exact h) (by kernel_rfl) ?_
  simp only [wpMix, pk_nil, pk_cons, pushAt_zero, pushAt_succ, List.drop_succ_cons, List.drop_zero]
  repeat (go_big_quiet_step (fail))
  refine wpQuiet_nil ?_
  go_wp2_with fail
  refine (HTM.out _).mono ?_
  rintro e wt ⟨rfl, rfl⟩
  go_wp2_with fail
  refine thenQ_normal ⟨⟨⟨_, (Below.refl _ _).drew⟩, rfl⟩, ?_⟩
  repeat (go_big_quiet_step (fail))
  refine wpQuiet_nil ?_
  clear C0 C1
  have hb : Below w27.heap.size w27 (w27.drew) := (Below.refl _ _).drew
  generalize w27.drew = w28 at *
  have ZZ28 := Lib.hid (And.intro ZZ27.out hb.size)
  have BB28 := Lib.hid (BB27.out.trans (hb.mono (by have zz := ZZ27.out; omega)))
  have R_28 := Lib.hid (R_27.out.up hb)
  have B_28 := Lib.hid (B_27.out.up hb)
  have Q_28 := Lib.hid (Q_27.out.up hb)
  have L_28 := Lib.hid (L_27.out.up hb)
  have S_28 := Lib.hid (S_27.out.up hb)
  have V_28 := Lib.hid (V_27.out.up hb)
  have W_28 := Lib.hid (W_27.out.up hb)
  clear hb BB27 R_27 B_27 Q_27 L_27 S_27 V_27 W_27
  go_wp2_with fail
  refine (gotoW (F := (fun k => w25.heap.size ≤ k ∧ k < w26.heap.size)) W_28.out.at_ OW.out.wide (OW.out.cs.trans HSW.out.2.1)).mono ?_
  rintro e w29 ⟨rfl, ho, hp⟩
  have ZZ29 := Lib.hid (And.intro ZZ28.out ho.size)
  have BB29 := Lib.hid (BB28.out.trans (ho.below (by have zz := ZZ28.out; omega) (fun k hk => by have zz := ZZ28.out; (try unfold grow at hk); omega)))
  have R_29 := Lib.hid (R_28.out.only ho (fun k hk hz => by have zz := ZZ28.out; (try unfold grow at hz); omega))
  have B_29 := Lib.hid (B_28.out.only ho (fun k hk hz => by have zz := ZZ28.out; (try unfold grow at hz); omega))
  have Q_29 := Lib.hid (Q_28.out.only ho (fun k hk hz => by have zz := ZZ28.out; (try unfold grow at hz); omega))
  have L_29 := Lib.hid (L_28.out.only ho (fun k hk hz => by have zz := ZZ28.out; (try unfold grow at hz); omega))
  have S_29 := Lib.hid (S_28.out.only ho (fun k hk hz => by have zz := ZZ28.out; (try unfold grow at hz); omega))
  have V_29 := Lib.hid (V_28.out.only ho (fun k hk hz => by have zz := ZZ28.out; (try unfold grow at hz); omega))
  have W_29 := Lib.hid (holdPB (hp.bound.mono (F' := (fun k => (w25.heap.size ≤ k ∧ k < w26.heap.size) ∨ (w28.heap.size ≤ k ∧ k < w29.heap.size))) (fun k hk => by unfold grow at hk; omega) (Nat.le_refl _)))
  clear hp
  clear ho BB28 R_28 B_28 Q_28 L_28 S_28 V_28 W_28
  go_wp2_with fail
  refine (insW_ok (F := (fun k => (w25.heap.size ≤ k ∧ k < w26.heap.size) ∨ (w28.heap.size ≤ k ∧ k < w29.heap.size))) (HTB.out w29 BB29.out) (HRB.out w29 BB29.out) W_29.out.at_ OW.out.wide (OW.out.cs.trans HSW.out.2.1)).mono ?_
  rintro e w30 ⟨rfl, ho, T4, hp, hw4, hc4⟩
  have ZZ30 := Lib.hid (And.intro ZZ29.out ho.size)
  have BB30 := Lib.hid (BB29.out.trans (ho.below (by have zz := ZZ29.out; omega) (fun k hk => by have zz := ZZ29.out; (try unfold grow at hk); omega)))
  have R_30 := Lib.hid (R_29.out.only ho (fun k hk hz => by have zz := ZZ29.out; (try unfold grow at hz); omega))
  have B_30 := Lib.hid (B_29.out.only ho (fun k hk hz => by have zz := ZZ29.out; (try unfold grow at hz); omega))
  have Q_30 := Lib.hid (Q_29.out.only ho (fun k hk hz => by have zz := ZZ29.out; (try unfold grow at hz); omega))
  have L_30 := Lib.hid (L_29.out.only ho (fun k hk hz => by have zz := ZZ29.out; (try unfold grow at hz); omega))
  have S_30 := Lib.hid (S_29.out.only ho (fun k hk hz => by have zz := ZZ29.out; (try unfold grow at hz); omega))
  have V_30 := Lib.hid (V_29.out.only ho (fun k hk hz => by have zz := ZZ29.out; (try unfold grow at hz); omega))
  have W_30 := Lib.hid (holdPB (hp.bound.mono (F' := (fun k => ((w25.heap.size ≤ k ∧ k < w26.heap.size) ∨ (w28.heap.size ≤ k ∧ k < w29.heap.size)) ∨ (w29.heap.size ≤ k ∧ k < w30.heap.size))) (fun k hk => by unfold grow at hk; omega) (Nat.le_refl _)))
  have W4 := Lib.hid (⟨hw4, hc4⟩ : _ ∧ _)
  clear hp hw4 hc4
  clear ho BB29 R_29 B_29 Q_29 L_29 S_29 V_29 W_29
  go_wp2_with fail
  refine (cutCallW2 W_30.out.at_ W4.out.1 W4.out.2).mono ?_
  rintro e w31 ⟨rfl, hb⟩
  have ZZ31 := Lib.hid (And.intro ZZ30.out hb.size)
  have BB31 := Lib.hid (BB30.out.trans (hb.mono (by have zz := ZZ30.out; omega)))
  have R_31 := Lib.hid (R_30.out.up hb)
  have B_31 := Lib.hid (B_30.out.up hb)
  have Q_31 := Lib.hid (Q_30.out.up hb)
  have L_31 := Lib.hid (L_30.out.up hb)
  have S_31 := Lib.hid (S_30.out.up hb)
  have V_31 := Lib.hid (V_30.out.up hb)
  have W_31 := Lib.hid (W_30.out.up hb)
  clear hb BB30 R_30 B_30 Q_30 L_30 S_30 V_30 W_30
  go_wp2_with fail
  refine (Q_31.out.at_.app_long (N := N) Nat.zero_lt_one ⟨#[121]⟩ false (by decide) (by show XB.size ≤ 1000000; have := HXB.out; omega) (by show (65536 : Int) < (rlenG ⟨#[121]⟩ : Int) + (rlenG XB : Int); rw [show rlenG ⟨#[121]⟩ = 1 by decide +kernel]; have := HXB.out; omega) (HTB.out w31 BB31.out) (by have zz := ZZ31.out; have := HN.out; omega) (by decide +kernel)).mono ?_
  rintro e w32 ⟨rfl, hr, ho⟩
  have ZZ32 := Lib.hid (And.intro ZZ31.out ho.size)
  have BB32 := Lib.hid (BB31.out.trans (ho.below (by have zz := ZZ31.out; omega) (fun k hk => by have zz := ZZ31.out; (try unfold grow at hk); omega)))
  have R_32 := Lib.hid (R_31.out.only ho (fun k hk hz => by have zz := ZZ31.out; (try unfold grow at hz); omega))
  have B_32 := Lib.hid (B_31.out.only ho (fun k hk hz => by have zz := ZZ31.out; (try unfold grow at hz); omega))
  have L_32 := Lib.hid (L_31.out.only ho (fun k hk hz => by have zz := ZZ31.out; (try unfold grow at hz); omega))
  have S_32 := Lib.hid (S_31.out.only ho (fun k hk hz => by have zz := ZZ31.out; (try unfold grow at hz); omega))
  have V_32 := Lib.hid (V_31.out.only ho (fun k hk hz => by have zz := ZZ31.out; (try unfold grow at hz); omega))
  have W_32 := Lib.hid (W_31.out.only ho (fun k hk hz => by have zz := ZZ31.out; (try unfold grow at hz); omega))
  have Q_32 := Lib.hid (holdRing hr)
  clear hr
  clear ho BB31 R_31 B_31 L_31 S_31 V_31 W_31 Q_31
  go_wp2_with fail
  refine (Q_32.out.at_.all).mono ?_
  rintro e w33 ⟨v, rfl, hown, hb⟩
  obtain ⟨gq, cq, hv, hg1, hg2⟩ := own_n hown (rfl : List.length _ = 1) (by decide)
  subst hv
  have ZZ33 := Lib.hid (And.intro ZZ32.out hb.size)
  have BB33 := Lib.hid (BB32.out.trans (hb.mono (by have zz := ZZ32.out; omega)))
  have R_33 := Lib.hid (R_32.out.up hb)
  have B_33 := Lib.hid (B_32.out.up hb)
  have Q_33 := Lib.hid (Q_32.out.up hb)
  have L_33 := Lib.hid (L_32.out.up hb)
  have S_33 := Lib.hid (S_32.out.up hb)
  have V_33 := Lib.hid (V_32.out.up hb)
  have W_33 := Lib.hid (W_32.out.up hb)
  clear hown hg1 hg2
  clear hb BB32 R_32 B_32 Q_32 L_32 S_32 V_32 W_32
  go_wp2_with fail
  refine (Q_33.out.at_.all).mono ?_
  rintro e w34 ⟨v, rfl, hown, hb⟩
  obtain ⟨gp, cp2, hv, hg1, hg2⟩ := own_n hown (rfl : List.length _ = 1) (by decide)
  subst hv
  have ZZ34 := Lib.hid (And.intro ZZ33.out hb.size)
  have BB34 := Lib.hid (BB33.out.trans (hb.mono (by have zz := ZZ33.out; omega)))
  have R_34 := Lib.hid (R_33.out.up hb)
  have B_34 := Lib.hid (B_33.out.up hb)
  have Q_34 := Lib.hid (Q_33.out.up hb)
  have L_34 := Lib.hid (L_33.out.up hb)
  have S_34 := Lib.hid (S_33.out.up hb)
  have V_34 := Lib.hid (V_33.out.up hb)
  have W_34 := Lib.hid (W_33.out.up hb)
  obtain ⟨g1, o1, q1, _, q2⟩ := (own_rsl hown).at_ eltStr (i := 0) rfl
  cases q1
  have k0 := q2 0 _ rfl
  simp only [Nat.zero_mul, Nat.add_zero] at k0
  have hx9 := HXB.out.2.2
  clear hown hg1 hg2 q2
  clear hb BB33 R_33 B_33 Q_33 L_33 S_33 V_33 W_33
  go_wp2_with fail
  clear k0 hx9
  refine (R_34.out.at_.all).mono ?_
  rintro e w35 ⟨v, rfl, hown, hb⟩
  obtain ⟨gr, cr, hv, hg1, hg2⟩ := own_n hown (rfl : List.length _ = 2) (by decide)
  subst hv
  have ZZ35 := Lib.hid (And.intro ZZ34.out hb.size)
  have BB35 := Lib.hid (BB34.out.trans (hb.mono (by have zz := ZZ34.out; omega)))
  have R_35 := Lib.hid (R_34.out.up hb)
  have B_35 := Lib.hid (B_34.out.up hb)
  have Q_35 := Lib.hid (Q_34.out.up hb)
  have L_35 := Lib.hid (L_34.out.up hb)
  have S_35 := Lib.hid (S_34.out.up hb)
  have V_35 := Lib.hid (V_34.out.up hb)
  have W_35 := Lib.hid (W_34.out.up hb)
  have RS1 := Lib.hid (own_rsl hown)
  clear hown hg1 hg2
  clear hb BB34 R_34 B_34 Q_34 L_34 S_34 V_34 W_34
  go_wp2_with fail
  have hb := below1 w35 (.cells #[.string ⟨#[101]⟩, .string ⟨#[100]⟩] 9)
  have hz : (w35.alloc (.cells #[.string ⟨#[101]⟩, .string ⟨#[100]⟩] 9)).heap.size = w35.heap.size + 1 := by simp
  have hsl : RSl encStr (w35.alloc (.cells #[.string ⟨#[101]⟩, .string ⟨#[100]⟩] 9)) (some ⟨w35.heap.size, 0, none⟩) [(⟨#[101]⟩ : ByteArray), ⟨#[100]⟩] := RSl.arr (MapKept.heap_alloc w35 _).1 rfl
  have hs1 := RS1.out.up hb
  generalize w35.alloc (.cells #[.string ⟨#[101]⟩, .string ⟨#[100]⟩] 9) = w36 at *
  have ZZ36 := Lib.hid (And.intro ZZ35.out (And.intro hb.size hz))
  have BB36 := Lib.hid (BB35.out.trans (hb.mono (by have zz := ZZ35.out; omega)))
  have R_36 := Lib.hid (R_35.out.up hb)
  have B_36 := Lib.hid (B_35.out.up hb)
  have Q_36 := Lib.hid (Q_35.out.up hb)
  have L_36 := Lib.hid (L_35.out.up hb)
  have S_36 := Lib.hid (S_35.out.up hb)
  have V_36 := Lib.hid (V_35.out.up hb)
  have W_36 := Lib.hid (W_35.out.up hb)
  clear hb hz BB35 R_35 B_35 Q_35 L_35 S_35 V_35 W_35
  refine (sameS_true _ _ hs1 hsl (by decide)).mono ?_
  rintro e w37 ⟨rfl, hb⟩
  have ZZ37 := Lib.hid (And.intro ZZ36.out hb.size)
  have BB37 := Lib.hid (BB36.out.trans (hb.mono (by have zz := ZZ36.out; omega)))
  have R_37 := Lib.hid (R_36.out.up hb)
  have B_37 := Lib.hid (B_36.out.up hb)
  have Q_37 := Lib.hid (Q_36.out.up hb)
  have L_37 := Lib.hid (L_36.out.up hb)
  have S_37 := Lib.hid (S_36.out.up hb)
  have V_37 := Lib.hid (V_36.out.up hb)
  have W_37 := Lib.hid (W_36.out.up hb)
  clear hs1 hsl
  clear hb BB36 R_36 B_36 Q_36 L_36 S_36 V_36 W_36
  go_wp2_with fail
  have hb := below1 w37 (.cells #[.string ⟨#[98, 99]⟩, .string ⟨#[101, 102]⟩] 9)
  have hz : (w37.alloc (.cells #[.string ⟨#[98, 99]⟩, .string ⟨#[101, 102]⟩] 9)).heap.size = w37.heap.size + 1 := by simp
  have hsl : RSl encStr (w37.alloc (.cells #[.string ⟨#[98, 99]⟩, .string ⟨#[101, 102]⟩] 9)) (some ⟨w37.heap.size, 0, none⟩) [(⟨#[98, 99]⟩ : ByteArray), ⟨#[101, 102]⟩] := RSl.arr (MapKept.heap_alloc w37 _).1 rfl
  have hs1 := own_rsl (L_37.out.up hb).at_
  generalize w37.alloc (.cells #[.string ⟨#[98, 99]⟩, .string ⟨#[101, 102]⟩] 9) = w38 at *
  have ZZ38 := Lib.hid (And.intro ZZ37.out (And.intro hb.size hz))
  have BB38 := Lib.hid (BB37.out.trans (hb.mono (by have zz := ZZ37.out; omega)))
  have R_38 := Lib.hid (R_37.out.up hb)
  have B_38 := Lib.hid (B_37.out.up hb)
  have Q_38 := Lib.hid (Q_37.out.up hb)
  have L_38 := Lib.hid (L_37.out.up hb)
  have S_38 := Lib.hid (S_37.out.up hb)
  have V_38 := Lib.hid (V_37.out.up hb)
  have W_38 := Lib.hid (W_37.out.up hb)
  clear hb hz BB37 R_37 B_37 Q_37 L_37 S_37 V_37 W_37
  refine (sameS_true _ _ hs1 hsl (by decide)).mono ?_
  rintro e w39 ⟨rfl, hb⟩
  have ZZ39 := Lib.hid (And.intro ZZ38.out hb.size)
  have BB39 := Lib.hid (BB38.out.trans (hb.mono (by have zz := ZZ38.out; omega)))
  have R_39 := Lib.hid (R_38.out.up hb)
  have B_39 := Lib.hid (B_38.out.up hb)
  have Q_39 := Lib.hid (Q_38.out.up hb)
  have L_39 := Lib.hid (L_38.out.up hb)
  have S_39 := Lib.hid (S_38.out.up hb)
  have V_39 := Lib.hid (V_38.out.up hb)
  have W_39 := Lib.hid (W_38.out.up hb)
  clear hs1 hsl
  clear hb BB38 R_38 B_38 Q_38 L_38 S_38 V_38 W_38
  go_wp2_with fail
  refine (allA B_39.out.at_ CF.out).mono ?_
  rintro e w40 ⟨rfl, hb⟩
  have ZZ40 := Lib.hid (And.intro ZZ39.out hb.size)
  have BB40 := Lib.hid (BB39.out.trans (hb.mono (by have zz := ZZ39.out; omega)))
  have R_40 := Lib.hid (R_39.out.up hb)
  have B_40 := Lib.hid (B_39.out.up hb)
  have Q_40 := Lib.hid (Q_39.out.up hb)
  have L_40 := Lib.hid (L_39.out.up hb)
  have S_40 := Lib.hid (S_39.out.up hb)
  have V_40 := Lib.hid (V_39.out.up hb)
  have W_40 := Lib.hid (W_39.out.up hb)
  have v1 : w40.cell? ⟨w18.heap.size, 1, none⟩ = some (.int .i64 2305843009213693951) := (V_39.out.up hb).at_.cell (j := 1) rfl
  have v3 : w40.cell? ⟨w18.heap.size, 3, none⟩ = some (.string ⟨#[]⟩) := (V_39.out.up hb).at_.cell (j := 3) rfl
  clear hb BB39 R_39 B_39 Q_39 L_39 S_39 V_39 W_39
  go_wp2_with fail
  clear v1 v3
  refine (regsNames S_40.out.at_ (by decide) (ks := [97]) (List.Perm.refl _) (by simp)).mono ?_
  rintro e w41 ⟨v, rfl, hownI, hb⟩
  have ZZ41 := Lib.hid (And.intro ZZ40.out hb.size)
  have BB41 := Lib.hid (BB40.out.trans (hb.mono (by have zz := ZZ40.out; omega)))
  have R_41 := Lib.hid (R_40.out.up hb)
  have B_41 := Lib.hid (B_40.out.up hb)
  have Q_41 := Lib.hid (Q_40.out.up hb)
  have L_41 := Lib.hid (L_40.out.up hb)
  have S_41 := Lib.hid (S_40.out.up hb)
  have V_41 := Lib.hid (V_40.out.up hb)
  have W_41 := Lib.hid (W_40.out.up hb)
  obtain ⟨AI, cI, hvI, _, _, hrsI⟩ := hownI.shape eltI
  subst hvI
  have RSI := Lib.hid hrsI
  clear hownI hrsI
  clear hb BB40 R_40 B_40 Q_40 L_40 S_40 V_40 W_40
  go_wp2_with fail
  have hb := below1 w41 (.cells #[.int .i64 97] 3)
  have hz : (w41.alloc (.cells #[.int .i64 97] 3)).heap.size = w41.heap.size + 1 := by simp
  have hsl : RSl encI (w41.alloc (.cells #[.int .i64 97] 3)) (some ⟨w41.heap.size, 0, none⟩) [(97 : Int)] := RSl.arr (MapKept.heap_alloc w41 _).1 rfl
  have hs1 := RSI.out.up hb
  generalize w41.alloc (.cells #[.int .i64 97] 3) = w42 at *
  have ZZ42 := Lib.hid (And.intro ZZ41.out (And.intro hb.size hz))
  have BB42 := Lib.hid (BB41.out.trans (hb.mono (by have zz := ZZ41.out; omega)))
  have R_42 := Lib.hid (R_41.out.up hb)
  have B_42 := Lib.hid (B_41.out.up hb)
  have Q_42 := Lib.hid (Q_41.out.up hb)
  have L_42 := Lib.hid (L_41.out.up hb)
  have S_42 := Lib.hid (S_41.out.up hb)
  have V_42 := Lib.hid (V_41.out.up hb)
  have W_42 := Lib.hid (W_41.out.up hb)
  clear hb hz BB41 R_41 B_41 Q_41 L_41 S_41 V_41 W_41
  refine (sameI_true _ _ hs1 hsl (by decide)).mono ?_
  rintro e wz ⟨rfl, hb⟩
  have BBz := Lib.hid (BB42.out.trans (hb.mono (by have zz := ZZ42.out; omega)))
  clear hb hs1 hsl
  go_wp2_with fail
  go_ret
  exact ⟨rfl, BBz.out⟩
end
end Go.Proofs.YtnbccoelbfgmgaaGreatDoor
