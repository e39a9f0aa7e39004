import Derived.Test.YtcfdalmllegefaaGreatDoorZ15
import Derived.Test.YtcfdalmllegefaaGreatDoorZ08
import Derived.Test.YtcfdalmllegefaaGreatDoorZ14
import Derived.Test.YtcfdalmllegefaaGreatDoorZ12
/- package buffer: how a deletion moves positions; gap.Delete at a text whose blocks lie in F. -/
namespace Go.Proofs.YtcfdalmllegefaaGreatDoor
open Go.RowKit Go.Lib
set_option linter.unusedVariables false
set_option linter.unusedSimpArgs false
/-- Where a deletion of x .. y moves a position. -/
def delF (x y : Int) (p : Int) (_ : Bool) : Int := if y ≤ p then p - (y - x) else if x < p then x else p
def delN (x y p : Nat) : Nat := if y ≤ p then p - (y - x) else if x < p then x else p
theorem delF_nat (x y p : Nat) (h : x ≤ y) (ah : Bool) : delF (x : Int) (y : Int) (p : Int) ah = ((delN x y p : Nat) : Int) := by
  unfold delF delN
  by_cases h1 : y ≤ p
  · rw [if_pos (by omega), if_pos h1]; omega
  · rw [if_neg (by omega), if_neg h1]
    by_cases h2 : x < p
    · rw [if_pos (by omega), if_pos h2]
    · rw [if_neg (by omega), if_neg h2]
section
variable {w w' : World} {t : Nat} {F : Nat → Prop} {cs : List Nat}
set_option maxHeartbeats 2000000 in
theorem deleted1_ok {k0 k1 : Nat} (y x p : Int) (ah : Bool) (hp0 : 0 ≤ p) (hp1 : p ≤ 2000000) (hx0 : 0 ≤ x) (hxy : x ≤ y) (hy1 : y ≤ 2000000) (h0 : w.cell? ⟨k0, 0, none⟩ = some (.int .i64 y)) (h1 : w.cell? ⟨k1, 0, none⟩ = some (.int .i64 x)) :
    Calls Tryz.prog 287 #[.int .i64 p, .bool ah, pAt k0, pAt k1] w fun r w2 => r = .returned (.int .i64 (delF x y p ah)) ∧ Below w.heap.size w w2 := by
  have s1 : IntKind.i64.wrap (y - x) = y - x := IntWalk.i64_in _ (by omega)
  have s2 : IntKind.i64.wrap (p - (y - x)) = p - (y - x) := IntWalk.i64_in _ (by omega)
  by_cases h : y ≤ p
  · have e : delF x y p ah = p - (y - x) := by unfold delF; rw [if_pos h]
    rw [e]
    have d1 : decide (y ≤ p) = true := decide_eq_true h
    clear e h hp0 hp1 hx0 hxy hy1
    go_enter Tryz.func287, Tryz.ntmps287
    go_wp2_with fail
    go_ret
    exact ⟨rfl, Below.refl _ _⟩
  · have d1 : decide (y ≤ p) = false := decide_eq_false h
    by_cases h2 : x < p
    · have e : delF x y p ah = x := by unfold delF; rw [if_neg h, if_pos h2]
      rw [e]
      have d2 : decide (x < p) = true := decide_eq_true h2
      clear e h h2 hp0 hp1 hx0 hxy hy1 s1 s2
      go_enter Tryz.func287, Tryz.ntmps287
      go_wp2_with fail
      go_ret
      exact ⟨rfl, Below.refl _ _⟩
    · have e : delF x y p ah = p := by unfold delF; rw [if_neg h, if_neg h2]
      rw [e]
      have d2 : decide (x < p) = false := decide_eq_false h2
      clear e h h2 hp0 hp1 hx0 hxy hy1 s1 s2
      go_enter Tryz.func287, Tryz.ntmps287
      go_wp2_with fail
      go_ret
      exact ⟨rfl, Below.refl _ _⟩
theorem deleted_ok (x y : Int) (hx0 : 0 ≤ x) (hxy : x ≤ y) (hy1 : y ≤ 2000000) (w : World) : Calls Tryz.prog 210 #[.int .i64 x, .int .i64 y] w fun r w' =>
    ∃ cp, r = .returned (.func (.func 287) #[] cp) ∧ Below w.heap.size w w' ∧ EditAt w' 287 cp (delF x y) := by
  have HN := Lib.hid (⟨hx0, hxy, hy1⟩ : _ ∧ _ ∧ _)
  clear hx0 hxy hy1
  go_enter Tryz.func210, Tryz.ntmps210
  go_wp2_with fail
  go_ret
  obtain ⟨a0, a1⟩ := al2 w (.int .i64 x) (.int .i64 y) 3 3
  refine ⟨_, rfl, below2 w _ _, enters_mk Tryz.func287 (by kernel_rfl) rfl, fun p ah w1 h0 h1 hb => ?_⟩
  exact deleted1_ok y x p ah h0 h1 HN.out.1 HN.out.2.1 HN.out.2.2 (cell_up a1 hb) (cell_up a0 hb)
theorem gdeleteF (h : GapF1 w t F cs) (x y : Nat) (hx1 : 1 ≤ x) (hxy : x ≤ y) (hy : y ≤ cs.length + 1) :
    Calls Tryz.prog 205 #[.pointer (some ⟨t, 0, none⟩), .int .i64 x, .int .i64 y] w fun e w' => e = .returned (.int .i64 0) ∧ GapF1 w' t (grow F w.heap.size) (delC cs x y) ∧ Only F w w' := by
  obtain ⟨g, fv, B, st, en, hx, hf⟩ := h
  exact (gdelete_ok hx x y hx1 hxy hy).mono fun e w' ⟨he, ht⟩ => ⟨he, ht.f hf⟩
end
end Go.Proofs.YtcfdalmllegefaaGreatDoor
/- package buffer: take at a plain buffer. -/
namespace Go.Proofs.YtcfdalmllegefaaGreatDoor
open Go.RowKit Go.Lib
set_option linter.unusedVariables false
set_option linter.unusedSimpArgs false
/-- The change of a deletion. -/
abbrev delChg (p : Nat) (tx : ByteArray) : Chg := ⟨2, p, 0, 0, 0, tx, 0, 0, false⟩
theorem subL_isN {cs : List Nat} (h : ∀ c ∈ cs, isN c) (x y : Nat) : ∀ c ∈ subL cs x y, isN c := fun c hc => h c (by unfold subL at hc; first | exact List.mem_of_mem_drop (List.mem_of_mem_take hc) | exact List.mem_of_mem_take (List.mem_of_mem_drop hc))
section
variable {w w' : World}
set_option maxHeartbeats 1000000 in
theorem values_0 (w : World) : Calls Tryz.prog 201 #[.slice none 0 0] w fun e w' => e = .returned (.func (.func 265) #[] #[.pointer (some ⟨w.heap.size, 0, none⟩)]) ∧ w' = w.alloc (.cells #[.slice none 0 0] 88) := by
  go_enter Tryz.func201, Tryz.ntmps201
  go_wp2_with fail
  go_ret
  exact ⟨rfl, rfl⟩
end
theorem encS_le (cs : List Nat) : (encS cs).size ≤ 4 * cs.length := by
  have := runesBytes_size_le (cs.map Int.ofNat)
  rwa [List.length_map] at this
/-- The cells of a buffer behind a deletion of x .. y. -/
def takeS (S : BS) (x y : Nat) : BS := { S with pt := delN x y S.pt, lo := delN x y S.lo, hi := delN x y S.hi, mark := delN x y S.mark, tick := S.tick + 1, empty := false }
section
variable {w w' : World} {b mm : Nat} {Fg Fl : Nat → Prop} {pr ev : Int} {S S' : BS} {cs : List Nat} {L : LgS}
set_option maxRecDepth 100000 in
set_option maxHeartbeats 8000000 in
theorem gtake {N : Nat} (hT : Tabs N w) (hR : Rules N w) (h : PlainX w b Fg Fl mm pr ev S cs L) (hlg : S.logs = true) (hNb : N ≤ b) (hNg : ∀ k, Fg k → N ≤ k) (hNl : ∀ k, Fl k → N ≤ k)
    (hpt : 1 ≤ S.pt ∧ S.pt ≤ 1000000) (hlo : S.lo ≤ 1000000) (hhi : S.hi ≤ 1000000) (hmk : S.mark ≤ 1000000) (htk : S.tick ≤ 1000000)
    (x y : Nat) (hx1 : 1 ≤ x) (hxy : x < y) (hy : y ≤ cs.length + 1) (hrm : Room L (y - x + 4)) :
    Calls Tryz.prog 131 #[pAt b, .int .i64 x, .int .i64 y] w fun r w' => r = .returned (.tuple #[]) ∧ ∃ q : Nat, q ≤ y - x + 3 ∧
      PlainTo w b Fg Fl mm pr ev S (takeS S x y) (delC cs x y) ⟨L.G, noteO S L.O (delChg x (encS (subL cs x y))), L.ch, L.co + q, L.nw + q⟩ w' := by
  obtain ⟨pt, lo, hi, mark, marked, ro, fo, tick, clean, t, m, p, o, l, logs, empty, lock, saved, tokens⟩ := S
  obtain ⟨G, O, ch, co, nw⟩ := L
  simp only at hlg hpt hlo hhi hmk htk
  subst hlg
  have hsv := h.sv
  simp only at hsv
  subst hsv
  have hle := h.gap.le
  have hcn := h.gap.cn
  have d0 : ((x : Int) == (y : Int)) = false := by simp; omega
  have s2 : IntKind.i64.wrap ((tick : Int) + 1) = ((tick + 1 : Nat) : Int) := by rw [IntWalk.i64_in _ (by omega)]; omega
  have q10 : w.cell? ⟨b, 10, none⟩ = some (pAt m) := h.blk.cell (j := 10) rfl
  have HN := Lib.hid (⟨hx1, hxy, hy, hle, hcn⟩ : _ ∧ _ ∧ _ ∧ _ ∧ _)
  have HT := Lib.hid hT
  have HR := Lib.hid hR
  have H := Lib.hid h
  have HB := Lib.hid (⟨hNb, hNg, hNl, hpt, hlo, hhi, hmk, htk, hrm⟩ : _ ∧ _ ∧ _ ∧ _ ∧ _ ∧ _ ∧ _ ∧ _ ∧ _)
  clear hT hR h hNb hNg hNl hpt hlo hhi hmk htk hrm hx1 hxy hy hle hcn
  go_enter Tryz.func131, Tryz.ntmps131
  go_wp2_with fail
  refine (min0 x y H.out.mks).mono ?_
  rintro e wa ⟨rfl, hba⟩
  have Ba := Lib.hid hba
  clear hba q10
  go_wp2_with fail
  refine (values_0 wa).mono ?_
  rintro e wb ⟨rfl, rfl⟩
  have Bb := Lib.hid (up2 Ba.out (below1 wa (.cells #[.slice none 0 0] 88)))
  have hcl : (wa.alloc (.cells #[.slice none 0 0] 88)).cell? ⟨wa.heap.size, 0, none⟩ = some (.slice none 0 0) := by simp
  have HCL := Lib.hid hcl
  clear hcl
  go_wp2_with fail
  refine (sorted0 HCL.out).mono ?_
  rintro e wc ⟨rfl, hbc⟩
  have Bc := Lib.hid (up2 Bb.out hbc)
  clear hbc HCL
  go_wp2_with fail
  go_loopw [29] (fun va wr => va = .int .i64 0 ∧ wc = wr) (fun _ _ => 0)
  case atStart => exact ⟨rfl, rfl⟩
  case round =>
    obtain ⟨rfl, rfl⟩ := hrel
    have H1 := Lib.hid (H.out.up Bc.out)
    have q11 : wc.cell? ⟨b, 11, none⟩ = some (pAt p) := H1.out.blk.cell (j := 11) rfl
    go_wp2_with fail
    refine (pspans0 x y (by have := HN.out; omega) (by have := HN.out; omega) (by have := HN.out; omega) H1.out.prs).mono ?_
    rintro e w' ⟨rfl, rfl⟩
    clear q11
    go_wp2_with fail
    go_loopw [56] (fun va wr => va = .int .i64 0 ∧ wc = wr) (fun _ _ => 0)
    case atStart => exact ⟨rfl, rfl⟩
    case round =>
      obtain ⟨rfl, rfl⟩ := hrel
      have q9 : wc.cell? ⟨b, 9, none⟩ = some (pAt t) := H1.out.blk.cell (j := 9) rfl
      obtain ⟨g, hgr⟩ := H1.out.gap.r
      have HSL := Lib.hid (gslice_ok hgr x y HN.out.1 (Nat.le_of_lt HN.out.2.1) HN.out.2.2.1)
      clear hgr
      go_wp2_with fail
      refine HSL.out.mono ?_
      rintro e w1 ⟨rfl, hb1⟩
      clear q9 HSL
      have hcs := chrs_encS (subL_isN HN.out.2.2.2.2 x y)
      have hlen : (subL cs x y).length = y - x := by have := HN.out; unfold subL; simp; omega
      have HPR := Lib.hid (show priceC (delChg x (encS (subL cs x y))) = 1 + (y - x) by unfold priceC; rw [if_pos rfl, hcs.1, hlen])
      have HCK := Lib.hid (show ChgOk (delChg x (encS (subL cs x y))) from ⟨by simp, fun _ => ⟨by have := HN.out; simp; omega, by have := HN.out; simp; omega⟩, fun e => by simp at e, by simp, fun _ => ⟨hcs.2, by show (encS (subL cs x y)).size ≤ 1000000; have := encS_le (subL cs x y); have := HN.out; omega⟩⟩)
      have R1 := Lib.hid (HR.out.up (up2 Bc.out hb1))
      have T1 := Lib.hid (HT.out.up (up2 Bc.out hb1))
      have B1 := Lib.hid (up2 Bc.out hb1)
      have z1 := B1.out.size
      have H1 := Lib.hid (H.out.up B1.out)
      clear hb1 hcs hlen H HR HT Ba Bb Bc
      go_wp2_with fail
      refine (gnote (F := Fl) (c := delChg x (encS (subL cs x y))) T1.out R1.out H1.out.blk rfl (by have := HB.out; dsimp only; omega) HB.out.2.2.1 HB.out.1 H1.out.fl.1 H1.out.log (HCK.out) (by have := HB.out.2.2.2.2.2.2.2.2.o; dsimp only at this ⊢; omega) HB.out.2.2.2.2.2.2.2.2.n0 (by have := HB.out.2.2.2.2.2.2.2.2.n1; rw [HPR.out]; dsimp only at this ⊢; omega) HB.out.2.2.2.2.2.2.2.2.c0 (by have := HB.out.2.2.2.2.2.2.2.2.c1; dsimp only at this ⊢; omega)).mono ?_
      rintro e w2 ⟨rfl, ho2, hk2, q, hq, hl2⟩
      have hq3 : q ≤ y - x + 3 := by rw [HPR.out] at hq; omega
      have h1 := H1.out
      have K2 := Lib.hid (show BufB w2 b ⟨pt, lo, hi, mark, marked, ro, fo, tick, clean, t, m, p, o, l, true, false, lock, .slice none 0 0, tokens⟩ from hk2)
      have G2 := Lib.hid (show GapF1 w2 t Fg cs from h1.gap.only ho2 (fun k hk _ e => e.elim (fun e => h1.fg.1 (e ▸ hk)) (h1.fgl k hk)))
      have M2 := Lib.hid (show Mk0 w2 m mm from h1.mks.only ho2 (fun e => e.elim (fun e => h1.ne.1 e.symm) h1.fl.2.1) (fun e => e.elim (fun e => h1.ne.2.1 e.symm) h1.fl.2.2.1))
      have P2 := Lib.hid (show Blk w2 p 203 prC from h1.prs.only ho2 (fun e => e.elim (fun e => h1.ne.2.2.1 e.symm) h1.fl.2.2.2.1))
      have X2 := Lib.hid (show Blk w2 o 206 (ovC pr ev) from h1.ovs.only ho2 (fun e => e.elim (fun e => h1.ne.2.2.2.1 e.symm) h1.fl.2.2.2.2))
      have T2 := Lib.hid (T1.out.only ho2 (fun k hk => hk.elim (fun e => e ▸ HB.out.1) (HB.out.2.2.1 k)))
      have L2 := Lib.hid (show LogF1 w2 l (fun k => grow Fl w1.heap.size k ∧ k < w2.heap.size) G (noteO ⟨pt, lo, hi, mark, marked, ro, fo, tick, clean, t, m, p, o, l, true, empty, lock, .slice none 0 0, tokens⟩ O (delChg x (encS (subL cs x y)))) ch (co + q) (nw + q) from LogF1.bound hl2)
      have z2 := ho2.size
      have Z2 := Lib.hid (⟨h1.fgl, h1.fg, h1.fl, h1.ne, h1.bg, h1.bl, h1.blk.lt, h1.mks.lt, h1.prs.lt, h1.ovs.lt, hq3⟩ : _ ∧ _ ∧ _ ∧ _ ∧ _ ∧ _ ∧ _ ∧ _ ∧ _ ∧ _ ∧ _)
      have O2 := Lib.hid (show Only (edFoot b Fg Fl ⟨pt, lo, hi, mark, marked, ro, fo, tick, clean, t, m, p, o, l, true, empty, lock, .slice none 0 0, tokens⟩) w w2 from (Only.of_below B1.out).trans (ho2.mono (fun k hk => hk.elim .inl (fun e => .inr (.inr (.inl e))))))
      clear ho2 hk2 hl2 h1 hq hq3 R1 T1 H1 B1
      have q9 : w2.cell? ⟨b, 9, none⟩ = some (pAt t) := K2.out.cell (j := 9) rfl
      go_wp2_with fail
      refine (gdeleteF G2.out x y HN.out.1 (Nat.le_of_lt HN.out.2.1) HN.out.2.2.1).mono ?_
      rintro e w3 ⟨rfl, hg3, ho3⟩
      have z3 := ho3.size
      have z := Z2.out
      have K3 := Lib.hid (K2.out.only ho3 z.2.1.1)
      have M3 := Lib.hid (M2.out.only ho3 z.2.1.2.1 z.2.1.2.2.1)
      have P3 := Lib.hid (P2.out.only ho3 z.2.1.2.2.2.1)
      have X3 := Lib.hid (X2.out.only ho3 z.2.1.2.2.2.2)
      have L3 := Lib.hid (L2.out.only ho3 (fun k hk _ e => hk.1.elim (z.1 k e) (fun e2 => by have := z.2.2.2.2.1 k e; omega)))
      have G3 := Lib.hid (show GapF1 w3 t (fun k => grow Fg w2.heap.size k ∧ k < w3.heap.size) (delC cs x y) from hg3.bound)
      have O3 := Lib.hid (O2.out.trans (ho3.mono (fun k hk => .inr (.inl hk))))
      clear hg3 ho3 z K2 M2 P2 X2 G2 L2 O2 T2 q9
      have q10 : w3.cell? ⟨b, 10, none⟩ = some (pAt m) := K3.out.cell (j := 10) rfl
      go_wp2_with fail
      refine (mdel0 x y (by have := HN.out; omega) (by have := HN.out; omega) (by have := HN.out; omega) M3.out).mono ?_
      rintro e w4 ⟨rfl, hb4⟩
      have K4 := Lib.hid (K3.out.up hb4)
      have M4 := Lib.hid (M3.out.up hb4)
      have P4 := Lib.hid (P3.out.up hb4)
      have X4 := Lib.hid (X3.out.up hb4)
      have L4 := Lib.hid (L3.out.up hb4)
      have G4 := Lib.hid (G3.out.up hb4)
      have O4 := Lib.hid (O3.out.trans (Only.of_below hb4))
      have z4 := hb4.size
      clear hb4 K3 M3 P3 X3 L3 G3 O3 q10
      have q11 : w4.cell? ⟨b, 11, none⟩ = some (pAt p) := K4.out.cell (j := 11) rfl
      go_wp2_with fail
      refine (pdel0 x y (by have := HN.out; omega) (by have := HN.out; omega) (by have := HN.out; omega) P4.out).mono ?_
      rintro e w5 ⟨rfl, ho5, hp5⟩
      have z := Z2.out
      have z5 := ho5.size
      have K5 := Lib.hid (K4.out.only ho5 z.2.2.2.1.2.2.1)
      have M5 := Lib.hid (M4.out.only ho5 (fun e => z.2.2.2.1.2.2.2.2.1 e.symm) (fun e => z.2.2.2.1.2.2.2.2.2.1 e.symm))
      have X5 := Lib.hid (X4.out.only ho5 (fun e => z.2.2.2.1.2.2.2.2.2.2.1 e.symm))
      have L5 := Lib.hid (L4.out.only ho5 (fun k hk _ e => hk.1.elim (fun e2 => z.2.2.1.2.2.2.1 (e ▸ e2)) (fun e2 => by have := z.2.2.2.2.2.2.2.2.1; omega)))
      have G5 := Lib.hid (G4.out.only ho5 (fun k hk _ e => hk.1.elim (fun e2 => z.2.1.2.2.2.1 (e ▸ e2)) (fun e2 => by have := z.2.2.2.2.2.2.2.2.1; omega)))
      have O5 := Lib.hid (O4.out.trans (ho5.mono (fun k hk => .inr (.inr (.inr (.inl hk))))))
      have P5 := Lib.hid hp5
      clear ho5 hp5 z K4 M4 P4 X4 L4 G4 O4 q11
      have q12 : w5.cell? ⟨b, 12, none⟩ = some (pAt o) := K5.out.cell (j := 12) rfl
      go_wp2_with fail
      refine (odel0 pr ev x y (by have := HN.out; omega) (by have := HN.out; omega) (by have := HN.out; omega) X5.out).mono ?_
      rintro e w6 ⟨rfl, ho6, hx6⟩
      have z := Z2.out
      have z6 := ho6.size
      have K6 := Lib.hid (K5.out.only ho6 z.2.2.2.1.2.2.2.1)
      have M6 := Lib.hid (M5.out.only ho6 (fun e => z.2.2.2.1.2.2.2.2.2.2.2.1 e.symm) (fun e => z.2.2.2.1.2.2.2.2.2.2.2.2 e.symm))
      have P6 := Lib.hid (P5.out.only ho6 z.2.2.2.1.2.2.2.2.2.2.1)
      have L6 := Lib.hid (L5.out.only ho6 (fun k hk _ e => hk.1.elim (fun e2 => z.2.2.1.2.2.2.2 (e ▸ e2)) (fun e2 => by have := z.2.2.2.2.2.2.2.2.2.1; omega)))
      have G6 := Lib.hid (G5.out.only ho6 (fun k hk _ e => hk.1.elim (fun e2 => z.2.1.2.2.2.2 (e ▸ e2)) (fun e2 => by have := z.2.2.2.2.2.2.2.2.2.1; omega)))
      have O6 := Lib.hid (O5.out.trans (ho6.mono (fun k hk => .inr (.inr (.inr (.inr hk))))))
      have X6 := Lib.hid hx6
      clear ho6 hx6 z K5 M5 P5 X5 L5 G5 O5 q12
      go_wp2_with fail
      refine (deleted_ok x y (by omega) (by have := HN.out; omega) (by have := HN.out; omega) w6).mono ?_
      rintro e w7 ⟨cp, rfl, hb7, hE⟩
      have K7 := Lib.hid (K6.out.up hb7)
      have O7 := Lib.hid (O6.out.trans (Only.of_below hb7))
      have B7 := Lib.hid hb7
      have z7 := hb7.size
      have E7 := Lib.hid hE
      clear hb7 hE K6 O6
      go_wp2_with fail
      refine (moves0_ok K7.out rfl E7.out false (by have := HB.out; dsimp only; omega) (by have := HB.out; dsimp only; omega) (by have := HB.out; dsimp only; omega) (by have := HB.out; dsimp only; omega) (delN x y pt) (delN x y lo) (delN x y hi) (delN x y mark) (delF_nat _ _ _ (Nat.le_of_lt HN.out.2.1) _) (delF_nat _ _ _ (Nat.le_of_lt HN.out.2.1) _) (delF_nat _ _ _ (Nat.le_of_lt HN.out.2.1) _) (delF_nat _ _ _ (Nat.le_of_lt HN.out.2.1) _)).mono ?_
      rintro e w8 ⟨rfl, ho8, hk8⟩
      have K8 := Lib.hid (show BufB w8 b ⟨delN x y pt, delN x y lo, delN x y hi, delN x y mark, marked, ro, fo, tick, clean, t, m, p, o, l, true, false, lock, .slice none 0 0, tokens⟩ from hk8)
      have z := Z2.out
      have z8 := ho8.size
      have M8 := Lib.hid ((M6.out.up B7.out).only ho8 (fun e => z.2.2.2.1.1 e.symm) (fun e => z.2.2.2.1.2.1 e.symm))
      have P8 := Lib.hid ((P6.out.up B7.out).only ho8 (fun e => z.2.2.2.1.2.2.1 e.symm))
      have X8 := Lib.hid ((X6.out.up B7.out).only ho8 (fun e => z.2.2.2.1.2.2.2.1 e.symm))
      have L8 := Lib.hid ((L6.out.up B7.out).only ho8 (fun k hk _ e => hk.1.elim (fun e2 => z.2.2.1.1 (e ▸ e2)) (fun e2 => by have := z.2.2.2.2.2.2.1; omega)))
      have G8 := Lib.hid ((G6.out.up B7.out).only ho8 (fun k hk _ e => hk.1.elim (fun e2 => z.2.1.1 (e ▸ e2)) (fun e2 => by have := z.2.2.2.2.2.2.1; omega)))
      have O8 := Lib.hid (O7.out.trans (ho8.mono (fun k hk => .inl hk)))
      clear ho8 hk8 z K7 M6 P6 X6 L6 G6 O7 B7 E7
      have q7 : w8.cell? ⟨b, 7, none⟩ = some (.int .i64 (tick : Int)) := K8.out.cell (j := 7) rfl
      have f7 := K8.out.fz 7
      go_wp2_with fail
      go_end0
      have hk9 := K8.out.set (j := 7) (by simp) (.int .i64 ((tick + 1 : Nat) : Int))
      have ho9 : Only (fun k => k = b) w8 (w8.setCell ⟨b, 7, none⟩ (.int .i64 ((tick + 1 : Nat) : Int))) := (Only.refl (fun k => k = b) w8).setCell (p := ⟨b, 7, none⟩) rfl _
      obtain ⟨y1, y2, y3, y4, y5, y6, y7, y8, y9, y10, y11⟩ := Z2.out
      unfold takeS
      dsimp only at y2 y3 y4 y8 y9 y10 ⊢
      refine ⟨rfl, q, y11, O8.out.setCell (p := ⟨b, 7, none⟩) (.inl rfl) _, (fun k => grow Fg w2.heap.size k ∧ k < w3.heap.size), (fun k => grow Fl w1.heap.size k ∧ k < w2.heap.size), ⟨hk9, ?_, ?_, ?_, ?_, ?_, rfl, ?_, ?_, ?_, y4, ?_, ?_⟩, ?_, ?_⟩
      · exact G8.out.only ho9 (fun k hk _ e => hk.1.elim (fun e2 => y2.1 (e ▸ e2)) (fun e2 => by omega))
      · exact L8.out.only ho9 (fun k hk _ e => hk.1.elim (fun e2 => y3.1 (e ▸ e2)) (fun e2 => by omega))
      · exact M8.out.only ho9 (fun e => y4.1 e.symm) (fun e => y4.2.1 e.symm)
      · exact P8.out.only ho9 (fun e => y4.2.2.1 e.symm)
      · exact X8.out.only ho9 (fun e => y4.2.2.2.1 e.symm)
      · intro k hk hk2
        rcases hk.1 with e | e
        · rcases hk2.1 with e2 | e2
          · exact y1 k e e2
          · have := y5 k e; omega
        · have := hk2.2; omega
      · dsimp only
        exact ⟨fun e => e.1.elim y2.1 (fun e => by omega), fun e => e.1.elim y2.2.1 (fun e => by omega), fun e => e.1.elim y2.2.2.1 (fun e => by omega), fun e => e.1.elim y2.2.2.2.1 (fun e => by omega), fun e => e.1.elim y2.2.2.2.2 (fun e => by omega)⟩
      · dsimp only
        exact ⟨fun e => e.1.elim y3.1 (fun e => by omega), fun e => e.1.elim y3.2.1 (fun e => by omega), fun e => e.1.elim y3.2.2.1 (fun e => by omega), fun e => e.1.elim y3.2.2.2.1 (fun e => by omega), fun e => e.1.elim y3.2.2.2.2 (fun e => by omega)⟩
      · intro k hk; have := hk.2; simp; omega
      · intro k hk; have := hk.2; simp; omega
      · intro k hk; exact hk.1.elim .inl (fun e => .inr (by omega))
      · intro k hk; exact hk.1.elim .inl (fun e => .inr (by omega))
end
end Go.Proofs.YtcfdalmllegefaaGreatDoor
/- package buffer: partOpen at empty properties. -/
namespace Go.Proofs.YtcfdalmllegefaaGreatDoor
open Go.RowKit Go.Lib
set_option linter.unusedVariables false
set_option linter.unusedSimpArgs false
def partB (S : BS) : Bool := S.fo || !S.ro
section
variable {w w' : World} {b : Nat} {S : BS}
set_option maxRecDepth 100000 in
set_option maxHeartbeats 2000000 in
theorem partOpen1_ok {k0 k1 k2 : Nat} (h : BufB w b S) (hp : Blk w S.p 203 prC) (x y : Int) (hx : 1 ≤ x) (hxy : x ≤ y) (hy : y ≤ 65537) (h0 : w.cell? ⟨k0, 0, none⟩ = some (pAt b)) (h1 : w.cell? ⟨k1, 0, none⟩ = some (.int .i64 x)) (h2 : w.cell? ⟨k2, 0, none⟩ = some (.int .i64 y)) :
    Calls Tryz.prog 195 #[pAt k0, pAt k1, pAt k2] w fun r w2 => r = .returned (.bool (partB S)) ∧ Below w.heap.size w w2 := by
  have c5 : w.cell? ⟨b, 5, none⟩ = some (.bool S.ro) := h.cell (j := 5) rfl
  have c6 : w.cell? ⟨b, 6, none⟩ = some (.bool S.fo) := h.cell (j := 6) rfl
  have c11 : w.cell? ⟨b, 11, none⟩ = some (pAt S.p) := h.cell (j := 11) rfl
  have HS := Lib.hid (fun (W : World) (hb : Below w.heap.size w W) => pspans0 x y hx hxy hy (hp.up hb))
  unfold partB
  clear h hp hx hxy hy
  cases hf : S.fo with
  | true =>
    rw [hf] at c6
    go_enter Tryz.func195, Tryz.ntmps195
    go_wp2_with fail
    go_ret
    exact ⟨rfl, Below.refl _ _⟩
  | false =>
    rw [hf] at c6
    rw [Bool.false_or]
    generalize S.ro = ro at *
    generalize S.p = p at *
    go_enter Tryz.func195, Tryz.ntmps195
    go_wp2_with fail
    have X0 : ∀ X : UpW w.heap.size w, X.w.cell? ⟨k0, 0, none⟩ = some (pAt b) := fun X => cell_up h0 X.up
    have X1 : ∀ X : UpW w.heap.size w, X.w.cell? ⟨k1, 0, none⟩ = some (.int .i64 x) := fun X => cell_up h1 X.up
    have X2 : ∀ X : UpW w.heap.size w, X.w.cell? ⟨k2, 0, none⟩ = some (.int .i64 y) := fun X => cell_up h2 X.up
    have X3 : ∀ X : UpW w.heap.size w, X.w.cell? ⟨b, 11, none⟩ = some (pAt p) := fun X => cell_up c11 X.up
    refine wp_region_mix w.heap.size 9 [([0, 1, 2, 3, 4, 5, 8], 6)] [7] (by kernel_rfl) (fun c d v a w h => by cases d <;> exact h) (by kernel_rfl) ?_
    simp only [wpMix, pk_nil, pk_cons, pushAt_zero, pushAt_succ, List.drop_succ_cons, List.drop_zero]
    repeat (go_big_quiet_step (fail))
    refine wpQuiet_nil ?_
    clear X0 X1 X2 X3
    go_wp2_with fail
    refine (HS.out _ (Below.refl _ w).drew).mono ?_
    rintro e w' ⟨rfl, rfl⟩
    go_wp2_with fail
    refine thenQ_normal ⟨⟨⟨_, (Below.refl _ w).drew⟩, rfl⟩, ?_⟩
    repeat (go_big_quiet_step (fail))
    refine wpQuiet_nil ?_
    have c5' : w.drew.cell? ⟨b, 5, none⟩ = some (.bool ro) := c5
    have h0' : w.drew.cell? ⟨k0, 0, none⟩ = some (pAt b) := h0
    go_wp2_with fail
    go_loopw [19] (fun va wr => va = .int .i64 0 ∧ w.drew = wr) (fun _ _ => 0)
    case atStart => exact ⟨rfl, rfl⟩
    case round =>
      obtain ⟨rfl, rfl⟩ := hrel
      go_wp2_with fail
      go_ret
      exact ⟨rfl, (Below.refl _ w).drew⟩
set_option maxHeartbeats 1000000 in
theorem partOpen_ok (h : BufB w b S) (hp : Blk w S.p 203 prC) (x y : Int) : Calls Tryz.prog 128 #[pAt b, .int .i64 x, .int .i64 y] w fun r w' =>
    ∃ ke kf, r = .returned (unlC ke kf (if partB S then 0 else 14)).val ∧ Below w.heap.size w w' ∧ ChkAt w' (1 ≤ x ∧ x ≤ y ∧ y ≤ 65537) (unlC ke kf (if partB S then 0 else 14)) := by
  have HB := Lib.hid h
  have HP := Lib.hid hp
  clear h hp
  obtain ⟨E, hE⟩ : ∃ E : Int, (if partB S then (0 : Int) else 14) = E := ⟨_, rfl⟩
  rw [hE]
  have HE := Lib.hid hE
  clear hE
  go_enter Tryz.func128, Tryz.ntmps128
  go_wp2_with fail
  have hb3 := below3 w (.cells #[pAt b] 22) (.cells #[.int .i64 x] 3) (.cells #[.int .i64 y] 3)
  obtain ⟨a0, a1, a2⟩ := al3 w (pAt b) (.int .i64 x) (.int .i64 y) 22 3 3
  generalize ((w.alloc (.cells #[pAt b] 22)).alloc (.cells #[.int .i64 x] 3)).alloc (.cells #[.int .i64 y] 3) = W at *
  refine (unless_ok 14 195 #[] #[pAt w.heap.size, pAt (w.heap.size + 1), pAt (w.heap.size + 2)] W).mono ?_
  rintro r w1 ⟨rfl, hb1, he, hf⟩
  go_wp2_with fail
  go_ret
  refine ⟨_, _, rfl, up2 hb3 hb1, HE.out ▸ ChkAt.unless (p := partB S) (enters_mk Tryz.func195 (by kernel_rfl) rfl) he hf fun hq w2 hb2 => ?_⟩
  exact partOpen1_ok (((HB.out.up hb3).up hb1).up hb2) (((HP.out.up hb3).up hb1).up hb2) x y hq.1 hq.2.1 hq.2.2 (cell_up a0 (up2 hb1 hb2)) (cell_up a1 (up2 hb1 hb2)) (cell_up a2 (up2 hb1 hb2))
end
end Go.Proofs.YtcfdalmllegefaaGreatDoor
/- package buffer: a plain buffer's state in plain Lean; put, take over it. -/
namespace Go.Proofs.YtcfdalmllegefaaGreatDoor
open Go.RowKit Go.Lib
set_option linter.unusedVariables false
set_option linter.unusedSimpArgs false
/-- The state of a plain buffer. -/
structure Tx where
  S : BS
  cs : List Nat
  G : List (List Chg)
  O : List Chg
  ch : Int
/-- Behind an insertion of the characters s at a. -/
def putT (T : Tx) (a : Nat) (s : List Nat) (bf : Bool) : Tx := if s.length = 0 then T else { T with S := putS T.S a s.length bf, cs := insC T.cs a s, O := noteO T.S T.O (insChg a s.length) }
/-- Behind a deletion of x .. y. -/
def takeT (T : Tx) (x y : Nat) : Tx := if x = y then T else { T with S := takeS T.S x y, cs := delC T.cs x y, O := noteO T.S T.O (delChg x (encS (subL T.cs x y))) }
/-- What is known besides of a plain buffer: its blocks lie in F; at most B was noted. -/
structure PBd (N b : Nat) (Fg Fl F : Nat → Prop) (mm : Nat) (T : Tx) (co nw : Int) (B : Nat) : Prop where
  abv : Abv N b Fg Fl T.S
  sane : Sane T.S T.cs.length
  foot : ∀ k, plFoot b Fg Fl mm T.S k → F k
  o : T.O.length ≤ B
  n0 : 0 ≤ nw
  n1 : nw ≤ B
  c0 : 0 ≤ co
  c1 : co ≤ B
  g : T.G.length ≤ B
  nz : T.O = [] → nw = 0
  tick : T.S.tick ≤ B
  logs : T.S.logs = true
def PB (N : Nat) (w : World) (b : Nat) (F : Nat → Prop) (T : Tx) (B : Nat) : Prop :=
  ∃ Fg Fl mm pr ev co nw, PlainX w b Fg Fl mm pr ev T.S T.cs ⟨T.G, T.O, T.ch, co, nw⟩ ∧ PBd N b Fg Fl F mm T co nw B
theorem PBd.mono {N b : Nat} {Fg Fl F F' : Nat → Prop} {mm : Nat} {T : Tx} {co nw : Int} {B B' : Nat} (h : PBd N b Fg Fl F mm T co nw B) (hF : ∀ k, F k → F' k) (hB : B ≤ B') : PBd N b Fg Fl F' mm T co nw B' :=
  ⟨h.abv, h.sane, fun k hk => hF k (h.foot k hk), by have := h.o; omega, h.n0, by have := h.n1; omega, h.c0, by have := h.c1; omega, by have := h.g; omega, h.nz, by have := h.tick; omega, h.logs⟩
theorem noteO_ne (S : BS) (O : List Chg) (c : Chg) : noteO S O c ≠ [] := by
  have : ∀ (O : List Chg) (c : Chg), logAdd O c ≠ [] := fun O c => by unfold logAdd; split <;> simp
  unfold noteO; split <;> exact this _ _
theorem noteO_len (S : BS) (O : List Chg) (c : Chg) : (noteO S O c).length ≤ O.length + 3 := by
  unfold noteO
  split
  · have h1 := logAdd_len (logAdd (if S.tick = S.clean then logAdd O cleanC else O) (pointC S.pt)) c
    have h2 := logAdd_len (if S.tick = S.clean then logAdd O cleanC else O) (pointC S.pt)
    have h3 : (if S.tick = S.clean then logAdd O cleanC else O).length ≤ O.length + 1 := by
      split
      · exact logAdd_len _ _
      · omega
    omega
  · have := logAdd_len O c; omega
theorem insN_mono {a n x y : Nat} {p q : Bool} (h : x ≤ y) (hpq : p = false ∨ q = true ∨ p = q) : insN a n x p ≤ insN a n y q := by
  unfold insN
  have : (p = true → q = true) := by rcases hpq with rfl | rfl | rfl <;> simp
  split <;> split
  · omega
  · rename_i h1 h2
    rcases h1 with h1 | ⟨h1, h3⟩
    · exact absurd (.inl (by omega)) h2
    · exact absurd (by rcases Nat.lt_or_ge a y with h | h; exact .inl h; exact .inr ⟨by omega, this h3⟩) h2
  · omega
  · omega
theorem insN_le {a n x : Nat} {p : Bool} : x ≤ insN a n x p ∧ insN a n x p ≤ x + n := by unfold insN; split <;> omega
theorem Sane.put {S : BS} {len : Nat} (h : Sane S len) (a n : Nat) (bf : Bool) : Sane (putS S a n bf) (len + n) := by
  have h1 := h.l1; have h2 := h.lp; have h3 := h.ph; have h4 := h.hn; have h5 := h.ma
  refine ⟨?_, ?_, ?_, ?_, ?_⟩
  · exact Nat.le_trans h1 (insN_le (a := a) (n := n)).1
  · exact insN_mono h2 (.inl rfl)
  · exact insN_mono h3 (.inr (.inl rfl))
  · have := (insN_le (a := a) (n := n) (x := S.hi) (p := true)).2; show insN a n S.hi true ≤ _; omega
  · have := (insN_le (a := a) (n := n) (x := S.mark) (p := bf)).2; show insN a n S.mark bf ≤ _; omega
theorem delN_mono {a b x y : Nat} (hab : a ≤ b) (h : x ≤ y) : delN a b x ≤ delN a b y := by unfold delN; (repeat' split) <;> omega
theorem delN_one {a b x : Nat} (hab : a ≤ b) (h1 : 1 ≤ a) (h : 1 ≤ x) : 1 ≤ delN a b x := by unfold delN; (repeat' split) <;> omega
theorem delN_top {a b x n : Nat} (hab : a ≤ b) (hb : b ≤ n + 1) (h : x ≤ n + 1) : delN a b x ≤ n - (b - a) + 1 := by unfold delN; (repeat' split) <;> omega
theorem Sane.take {S : BS} {len : Nat} (h : Sane S len) {x y : Nat} (h1 : 1 ≤ x) (hxy : x ≤ y) (hy : y ≤ len + 1) : Sane (takeS S x y) (len - (y - x)) := by
  refine ⟨?_, ?_, ?_, ?_, ?_⟩
  · exact delN_one hxy h1 h.l1
  · exact delN_mono hxy h.lp
  · exact delN_mono hxy h.ph
  · exact delN_top hxy hy h.hn
  · exact delN_top hxy hy h.ma
theorem insC_len {cs s : List Nat} {a : Nat} : (insC cs a s).length = cs.length + s.length := by unfold insC; simp; omega
theorem delC_len {cs : List Nat} {x y : Nat} (h1 : 1 ≤ x) (hxy : x ≤ y) (hy : y ≤ cs.length + 1) : (delC cs x y).length = cs.length - (y - x) := by unfold delC; simp; omega
section
variable {N : Nat} {w w' : World} {b mm : Nat} {F F' Fg Fl : Nat → Prop} {pr ev : Int} {T T' : Tx} {co nw co' nw' : Int} {B B' : Nat}
theorem PB.mono (h : PB N w b F T B) (hF : ∀ k, F k → F' k) (hB : B ≤ B') : PB N w b F' T B' := by
  obtain ⟨Fg, Fl, mm, pr, ev, co, nw, hx, hd⟩ := h; exact ⟨Fg, Fl, mm, pr, ev, co, nw, hx, hd.mono hF hB⟩
theorem PB.up (h : PB N w b F T B) (hb : Below w.heap.size w w') : PB N w' b F T B := by
  obtain ⟨Fg, Fl, mm, pr, ev, co, nw, hx, hd⟩ := h; exact ⟨Fg, Fl, mm, pr, ev, co, nw, hx.up hb, hd⟩
theorem PB.only {Z : Nat → Prop} (h : PB N w b F T B) (ho : Only Z w w') (hd : ∀ k, F k → ¬ Z k) : PB N w' b F T B := by
  obtain ⟨Fg, Fl, mm, pr, ev, co, nw, hx, hq⟩ := h; exact ⟨Fg, Fl, mm, pr, ev, co, nw, hx.only ho (fun k hk => hd k (hq.foot k hk)), hq⟩
theorem PB.bound (h : PB N w b F T B) : PB N w b (fun k => F k ∧ k < w.heap.size) T B := by
  obtain ⟨Fg, Fl, mm, pr, ev, co, nw, hx, hd⟩ := h
  exact ⟨Fg, Fl, mm, pr, ev, co, nw, hx, hd.abv, hd.sane, fun k hk => ⟨hd.foot k hk, hx.foot_lt hk⟩, hd.o, hd.n0, hd.n1, hd.c0, hd.c1, hd.g, hd.nz, hd.tick, hd.logs⟩
theorem PB.sane (h : PB N w b F T B) : Sane T.S T.cs.length := by obtain ⟨Fg, Fl, mm, pr, ev, co, nw, hx, hd⟩ := h; exact hd.sane
theorem PB.r (h : PB N w b F T B) : BufR w b T.cs T.S.pt T.S.lo T.S.hi := by obtain ⟨Fg, Fl, mm, pr, ev, co, nw, hx, hd⟩ := h; exact hx.r hd.sane
theorem PB.blk (h : PB N w b F T B) : BufB w b T.S := by obtain ⟨Fg, Fl, mm, pr, ev, co, nw, hx, hd⟩ := h; exact hx.blk
theorem PB.le (h : PB N w b F T B) : T.cs.length ≤ 65536 := by obtain ⟨Fg, Fl, mm, pr, ev, co, nw, hx, hd⟩ := h; exact hx.gap.le
theorem PB.cn (h : PB N w b F T B) : ∀ c ∈ T.cs, isN c := by obtain ⟨Fg, Fl, mm, pr, ev, co, nw, hx, hd⟩ := h; exact hx.gap.cn
theorem PB.logs (h : PB N w b F T B) : T.S.logs = true := by obtain ⟨Fg, Fl, mm, pr, ev, co, nw, hx, hd⟩ := h; exact hd.logs
theorem PB.getAt (h : PB N w b F T B) : GetAt w T.S.p (fun _ _ => none) := by obtain ⟨Fg, Fl, mm, pr, ev, co, nw, hx, hd⟩ := h; exact hx.getAt
theorem PB.prs (h : PB N w b F T B) : Blk w T.S.p 203 prC := by obtain ⟨Fg, Fl, mm, pr, ev, co, nw, hx, hd⟩ := h; exact hx.prs
theorem PB.size (h : PB N w b F T B) : ∀ w1, Below w.heap.size w w1 → Calls Tryz.prog 154 #[pAt T.S.t] w1 fun r w2 => r = .returned (.int .i64 T.cs.length) ∧ Below w1.heap.size w1 w2 := by
  obtain ⟨Fg, Fl, mm, pr, ev, co, nw, hx, hd⟩ := h; exact hx.size
theorem PB.inF (h : PB N w b F T B) : F b ∧ N ≤ b ∧ b < w.heap.size := by
  obtain ⟨Fg, Fl, mm, pr, ev, co, nw, hx, hd⟩ := h; exact ⟨hd.foot b (.inl rfl), hd.abv.b, hx.blk.lt⟩
theorem PBd.ed (h : PBd N b Fg Fl F mm T co nw B) : ∀ k, edFoot b Fg Fl T.S k → F k := fun k hk => h.foot k (by
  rcases hk with hk | hk | hk | hk | hk
  · exact .inl hk
  · exact .inr (.inl hk)
  · exact .inr (.inr (.inl hk))
  · exact .inr (.inr (.inr (.inr (.inr (.inl hk)))))
  · exact .inr (.inr (.inr (.inr (.inr (.inr hk))))))
/-- What comes of one edit. -/
theorem PB.step (hd : PBd N b Fg Fl F mm T co nw B) (hN : N ≤ w.heap.size) (hto : PlainTo w b Fg Fl mm pr ev T.S T'.S T'.cs ⟨T'.G, T'.O, T'.ch, co', nw'⟩ w')
    (hS : T'.S.m = T.S.m ∧ T'.S.p = T.S.p ∧ T'.S.o = T.S.o) (hs : Sane T'.S T'.cs.length) (ho : T'.O.length ≤ B') (n0 : 0 ≤ nw') (n1 : nw' ≤ B') (c0 : 0 ≤ co') (c1 : co' ≤ B') (hg : T'.G.length ≤ B') (nz : T'.O = [] → nw' = 0) (ht : T'.S.tick ≤ B') (hl : T'.S.logs = true) :
    Only F w w' ∧ PB N w' b (grow F w.heap.size) T' B' := by
  obtain ⟨hon, Fg', Fl', hx, h1, h2⟩ := hto
  refine ⟨hon.mono hd.ed, Fg', Fl', mm, pr, ev, co', nw', hx, hd.abv.to hN h1 h2 hS.2.1 hS.2.2, hs, fun k hk => ?_, ho, n0, n1, c0, c1, hg, nz, ht, hl⟩
  rcases hk with hk | hk | hk | hk | hk | hk | hk
  · exact .inl (hd.foot k (.inl hk))
  · exact (h1 k hk).elim (fun e => .inl (hd.foot k (.inr (.inl e)))) .inr
  · exact (h2 k hk).elim (fun e => .inl (hd.foot k (.inr (.inr (.inl e))))) .inr
  · rw [hS.1] at hk; exact .inl (hd.foot k (.inr (.inr (.inr (.inl hk)))))
  · exact .inl (hd.foot k (.inr (.inr (.inr (.inr (.inl hk))))))
  · rw [hS.2.1] at hk; exact .inl (hd.foot k (.inr (.inr (.inr (.inr (.inr (.inl hk)))))))
  · rw [hS.2.2] at hk; exact .inl (hd.foot k (.inr (.inr (.inr (.inr (.inr (.inr hk)))))))
theorem PB.nN (h : PB N w b F T B) : N ≤ w.heap.size := by have := h.inF; omega
/-- put over the state. -/
theorem pput (hT : Tabs N w) (hR : Rules N w) (h : PB N w b F T B) (hB : B ≤ 900000)
    (a : Nat) (ha1 : 1 ≤ a) (ha2 : a ≤ T.cs.length + 1) (s : ByteArray) (hs : s.size ≤ 262144) (hv : (charsD s.data.toList).isSome = true) (hfit : T.cs.length + (chrs s).length ≤ 65536) (bf : Bool) :
    Calls Tryz.prog 132 #[pAt b, .int .i64 a, .string s, .bool bf] w fun r w' => r = .returned (.tuple #[]) ∧ Only F w w' ∧ PB N w' b (grow F w.heap.size) (putT T a (chrs s) bf) (B + 4) := by
  have hN := h.nN
  obtain ⟨Fg, Fl, mm, pr, ev, co, nw, hx, hd⟩ := h
  have h1 := hd.o; have h2 := hd.n1; have h3 := hd.c1; have h4 := hd.tick; have h5 := hd.g; have h6 := hd.n0; have h7 := hd.c0
  refine (gput0 hT hR hx hd.logs hd.abv.b hd.abv.g hd.abv.l hd.sane (by omega) ⟨by dsimp only; omega, hd.n0, by dsimp only; omega, hd.c0, by dsimp only; omega⟩ a ha1 ha2 s hs hv hfit bf).mono ?_
  rintro r w' ⟨rfl, L', hL', hp⟩
  refine ⟨rfl, ?_⟩
  unfold PutL at hL'
  unfold putS0 at hp
  unfold putT
  by_cases h0 : (chrs s).length = 0
  · rw [if_pos h0] at hL' hp ⊢
    subst hL'
    have he : chrs s = [] := List.eq_nil_of_length_eq_zero h0
    have hi : insC T.cs a (chrs s) = T.cs := by unfold insC; rw [he]; simp
    rw [hi] at hp
    exact PB.step hd hN hp ⟨rfl, rfl, rfl⟩ hd.sane (by (try dsimp only); omega) hd.n0 (by (try dsimp only); omega) hd.c0 (by (try dsimp only); omega) (by (try dsimp only); omega) hd.nz (by (try dsimp only); omega) hd.logs
  · rw [if_neg h0] at hL' hp ⊢
    obtain ⟨q, hq, rfl⟩ := hL'
    have hno := noteO_len T.S T.O (insChg a (chrs s).length)
    exact PB.step (T' := { T with S := putS T.S a (chrs s).length bf, cs := insC T.cs a (chrs s), O := noteO T.S T.O (insChg a (chrs s).length) }) hd hN hp ⟨rfl, rfl, rfl⟩ (by rw [insC_len]; exact hd.sane.put _ _ _) (by dsimp only; omega) (by (try dsimp only); omega) (by (try dsimp only); omega) (by (try dsimp only); omega) (by (try dsimp only); omega) (by dsimp only; omega) (fun e => absurd e (noteO_ne _ _ _)) (by show T.S.tick + 1 ≤ _; omega) hd.logs
set_option maxHeartbeats 1000000 in
theorem takeE (x : Int) (w : World) : Calls Tryz.prog 131 #[pAt b, .int .i64 x, .int .i64 x] w fun r w' => r = .returned (.tuple #[]) ∧ w = w' := by
  go_enter Tryz.func131, Tryz.ntmps131
  go_wp2_with fail
  refine bodyPost_ret (results_none rfl _ _ _) rfl ?_
  exact ⟨rfl, rfl⟩
/-- take over the state. -/
theorem ptake (hT : Tabs N w) (hR : Rules N w) (h : PB N w b F T B) (hB : B ≤ 900000) (x y : Nat) (hx1 : 1 ≤ x) (hxy : x ≤ y) (hy : y ≤ T.cs.length + 1) :
    Calls Tryz.prog 131 #[pAt b, .int .i64 x, .int .i64 y] w fun r w' => r = .returned (.tuple #[]) ∧ Only F w w' ∧ PB N w' b (grow F w.heap.size) (takeT T x y) (B + (y - x) + 4) := by
  unfold takeT
  by_cases h0 : x = y
  · subst h0
    rw [if_pos rfl]
    exact (takeE x w).mono fun r w' ⟨hr, hw⟩ => ⟨hr, hw ▸ Only.refl _ _, hw ▸ h.mono (fun k hk => .inl hk) (by omega)⟩
  · rw [if_neg h0]
    have hN := h.nN
    have hle := h.le
    obtain ⟨Fg, Fl, mm, pr, ev, co, nw, hx, hd⟩ := h
    have h1 := hd.o; have h2 := hd.n1; have h3 := hd.c1; have h4 := hd.tick; have h5 := hd.g; have h6 := hd.n0; have h7 := hd.c0
    have hsn := hd.sane
    have g1 := hsn.l1; have g2 := hsn.lp; have g3 := hsn.ph; have g4 := hsn.hn; have g5 := hsn.ma
    refine (gtake hT hR hx hd.logs hd.abv.b hd.abv.g hd.abv.l ⟨by omega, by omega⟩ (by omega) (by omega) (by omega) (by omega) x y hx1 (by omega) hy ⟨by dsimp only; omega, hd.n0, by dsimp only; omega, hd.c0, by dsimp only; omega⟩).mono ?_
    rintro r w' ⟨rfl, q, hq, hp⟩
    have hno := noteO_len T.S T.O (delChg x (encS (subL T.cs x y)))
    exact ⟨rfl, PB.step (T' := { T with S := takeS T.S x y, cs := delC T.cs x y, O := noteO T.S T.O (delChg x (encS (subL T.cs x y))) }) hd hN hp ⟨rfl, rfl, rfl⟩ (by rw [delC_len hx1 hxy hy]; exact hsn.take hx1 hxy hy) (by dsimp only; omega) (by (try dsimp only); omega) (by (try dsimp only); omega) (by (try dsimp only); omega) (by (try dsimp only); omega) (by dsimp only; omega) (fun e => absurd e (noteO_ne _ _ _)) (by show T.S.tick + 1 ≤ _; omega) hd.logs⟩
/-- One cell of the buffer turned. -/
theorem PB.cell {j : Nat} {v : Value} {S2 : BS} (h : PB N w b F T B) (hj : j < 19) (he : (bufC T.S).set j v (by simpa using hj) = bufC S2) (h2 : S2.t = T.S.t ∧ S2.m = T.S.m ∧ S2.p = T.S.p ∧ S2.o = T.S.o ∧ S2.l = T.S.l ∧ S2.saved = T.S.saved)
    (hs : Sane S2 T.cs.length) (ht : S2.tick ≤ B) (hl : S2.logs = true) : Only F w (w.setCell ⟨b, j, none⟩ v) ∧ PB N (w.setCell ⟨b, j, none⟩ v) b (grow F w.heap.size) { T with S := S2 } B := by
  have hN := h.nN
  obtain ⟨Fg, Fl, mm, pr, ev, co, nw, hx, hd⟩ := h
  exact PB.step (T' := { T with S := S2 }) hd hN ((PlainTo.refl hx).cell hj he h2) ⟨h2.2.1, h2.2.2.1, h2.2.2.2.1⟩ hs hd.o hd.n0 hd.n1 hd.c0 hd.c1 hd.g hd.nz ht hl
end
end Go.Proofs.YtcfdalmllegefaaGreatDoor
/- package buffer: Insert, InsertAhead, Put, Delete, Replace, Goto at a plain buffer. -/
namespace Go.Proofs.YtcfdalmllegefaaGreatDoor
open Go.RowKit Go.Lib
set_option linter.unusedVariables false
set_option linter.unusedSimpArgs false
theorem reach_iff {S : BS} {x y : Int} : reachB S x y = true ↔ (S.lo : Int) ≤ x ∧ x ≤ y ∧ y ≤ (S.hi : Int) := by unfold reachB; simp [and_assoc]
theorem reach_of0 {S : BS} {x y : Int} (h : (if reachB S x y = true then (0 : Int) else 3) = 0) : (S.lo : Int) ≤ x ∧ x ≤ y ∧ y ≤ (S.hi : Int) := by
  split at h
  · rename_i h1; exact reach_iff.1 h1
  · omega
theorem fits0 {s : ByteArray} {n : Nat} {less : Int} (h : fitsE s n less = 0) : (charsD s.data.toList).isSome = true ∧ (n : Int) - less + ((chrs s).length : Int) ≤ 65536 := by
  unfold fitsE at h
  split at h
  · rename_i hv
    rw [vld_chars] at hv
    rw [rlenG_chars hv] at h
    split at h
    · omega
    · exact ⟨hv, by omega⟩
  · omega
theorem firstE3 (a b c : Chk) : firstE [a, b, c] = if a.e = 0 then (if b.e = 0 then c.e else b.e) else a.e := by
  simp only [firstE]; repeat' split
  all_goals first | rfl | (rename_i h; exact h.symm) | omega
theorem firstE2 (a b : Chk) : firstE [a, b] = if a.e = 0 then b.e else a.e := by
  simp only [firstE]; repeat' split
  all_goals first | rfl | (rename_i h; exact h.symm) | omega
/-- What Put, Delete, Replace answer at a plain buffer that is not read-only. -/
def putEr (T : Tx) (a : Int) (s : ByteArray) : Int := if reachB T.S a a = true then fitsE s T.cs.length 0 else 3
def delE (T : Tx) (x y : Int) : Int := if reachB T.S x y = true then 0 else 3
def repE (T : Tx) (x y : Int) (s : ByteArray) : Int := if reachB T.S x y = true then fitsE s T.cs.length (y - x) else 3
/-- Behind insert. -/
def insT (T : Tx) (s : List Nat) (bf : Bool) : Tx := { putT T T.S.pt s bf with S := { (putT T T.S.pt s bf).S with pt := T.S.pt + s.length } }
section
variable {N : Nat} {w w' : World} {b mm : Nat} {F F' Fg Fl : Nat → Prop} {pr ev : Int} {T T' : Tx} {co nw co' nw' : Int} {B B' : Nat}
theorem PB.stay (h : PB N w b F T B) (hb : Below w.heap.size w w') (d : Nat) : Only F w w' ∧ PB N w' b (grow F w.heap.size) T (B + d) := ⟨Only.of_below hb, (h.up hb).mono (fun k hk => .inl hk) (by omega)⟩
theorem PB.then {w1 w2 : World} {T1 T2 : Tx} {B1 B2 : Nat} (hb : Below w.heap.size w w1) (h : Only F w1 w2 ∧ PB N w2 b (grow F w1.heap.size) T2 B2) : Only F w w2 ∧ PB N w2 b (grow F w.heap.size) T2 B2 :=
  ⟨(Only.of_below hb).trans h.1, h.2.mono (grow_mono (fun k h => h) hb.size) (Nat.le_refl _)⟩
theorem PB.next {w1 w2 : World} {T2 : Tx} {B2 : Nat} (h1 : Only F w w1) (h : Only (grow F w.heap.size) w1 w2 ∧ PB N w2 b (grow (grow F w.heap.size) w1.heap.size) T2 B2) : Only F w w2 ∧ PB N w2 b (grow F w.heap.size) T2 B2 :=
  ⟨Only.grow h1 h.1, h.2.mono (grow_two h1.size) (Nat.le_refl _)⟩
theorem PB.post {w1 w2 : World} {F0 : Nat → Prop} {T2 : Tx} {B2 : Nat} (h : Only F0 w w1 ∧ PB N w1 b F T2 B2) (hb : Below w1.heap.size w1 w2) : Only F0 w w2 ∧ PB N w2 b F T2 B2 := ⟨h.1.trans (Only.of_below hb), h.2.up hb⟩
theorem Abv0 (h : PB N w b F T B) (hF : ∀ k, F k → N ≤ k) : True := trivial
/-- A buffer's blocks that may turn lie from N on: tables below N stay. -/
def edF (N : Nat) (F : Nat → Prop) : Prop := ∀ k, F k → N ≤ k
theorem edF.grow {n : Nat} (h : edF N F) (hn : N ≤ n) : edF N (grow F n) := fun k hk => hk.elim (h k) (fun e => by omega)
set_option maxRecDepth 100000 in
set_option maxHeartbeats 4000000 in
theorem pinsert (hT : Tabs N w) (hR : Rules N w) (h : PB N w b F T B) (hB : B ≤ 900000) (hro : T.S.ro = false) (s : ByteArray) (hs : s.size ≤ 262144) (bf : Bool) :
    Calls Tryz.prog 110 #[pAt b, .string s, .bool bf] w fun r w' => r = .returned (.int .i64 (fitsE s T.cs.length 0)) ∧ Only F w w' ∧ PB N w' b (grow F w.heap.size) (if fitsE s T.cs.length 0 = 0 then insT T (chrs s) bf else T) (B + 4) := by
  have hN := h.nN
  have hst := fun w' (hb : Below w.heap.size w w') => h.stay hb 4
  obtain ⟨Fg, Fl, mm, pr, ev, co, nw, hx, hd⟩ := h
  have h1 := hd.o; have h2 := hd.n1; have h3 := hd.c1; have h4 := hd.tick; have h5 := hd.g; have h6 := hd.n0; have h7 := hd.c0
  refine (binsert hT hR hx hd.logs hro hd.abv hd.sane (by omega) ⟨by dsimp only; omega, hd.n0, by dsimp only; omega, hd.c0, by dsimp only; omega⟩ s hs bf).mono ?_
  rintro r w' ⟨rfl, hA, hC⟩
  refine ⟨rfl, ?_⟩
  by_cases hE : fitsE s T.cs.length 0 = 0
  · rw [if_pos hE]
    obtain ⟨L', hL', hp⟩ := hC hE
    have hsn := hd.sane
    have g1 := hsn.l1; have g2 := hsn.lp; have g3 := hsn.ph; have g4 := hsn.hn; have g5 := hsn.ma
    unfold PutL at hL'
    unfold putS0 at hp
    unfold insT putT
    by_cases h0 : (chrs s).length = 0
    · rw [if_pos h0] at hL' hp ⊢
      subst hL'
      have he : chrs s = [] := List.eq_nil_of_length_eq_zero h0
      have hi : insC T.cs T.S.pt (chrs s) = T.cs := by unfold insC; rw [he]; simp
      rw [hi] at hp
      exact PB.step (T' := { T with S := { T.S with pt := T.S.pt + (chrs s).length } }) hd hN hp ⟨rfl, rfl, rfl⟩ ⟨g1, by show T.S.lo ≤ T.S.pt + (chrs s).length; omega, by show T.S.pt + (chrs s).length ≤ T.S.hi; omega, g4, g5⟩ (by dsimp only; omega) hd.n0 (by (try dsimp only); omega) hd.c0 (by (try dsimp only); omega) (by dsimp only; omega) hd.nz (by dsimp only; omega) hd.logs
    · rw [if_neg h0] at hL' hp ⊢
      obtain ⟨q, hq, rfl⟩ := hL'
      have hno := noteO_len T.S T.O (insChg T.S.pt (chrs s).length)
      have hs2 := hsn.put T.S.pt (chrs s).length bf
      have hlo : insN T.S.pt (chrs s).length T.S.lo false ≤ T.S.pt := by unfold insN; rw [if_neg (by rintro (h | h); omega; exact absurd h.2 (by simp))]; exact g2
      have hhi : insN T.S.pt (chrs s).length T.S.hi true = T.S.hi + (chrs s).length := by unfold insN; rw [if_pos (by rcases Nat.lt_or_ge T.S.pt T.S.hi with h | h; exact .inl h; exact .inr ⟨by omega, rfl⟩)]
      refine PB.step (T' := { T with S := { putS T.S T.S.pt (chrs s).length bf with pt := T.S.pt + (chrs s).length }, cs := insC T.cs T.S.pt (chrs s), O := noteO T.S T.O (insChg T.S.pt (chrs s).length) }) hd hN hp ⟨rfl, rfl, rfl⟩ ?_ (by dsimp only; omega) (by (try dsimp only); omega) (by (try dsimp only); omega) (by (try dsimp only); omega) (by (try dsimp only); omega) (by dsimp only; omega) (fun e => absurd e (noteO_ne _ _ _)) (by show T.S.tick + 1 ≤ _; omega) hd.logs
      rw [insC_len]
      refine ⟨hs2.l1, ?_, ?_, hs2.hn, hs2.ma⟩
      · show insN T.S.pt (chrs s).length T.S.lo false ≤ T.S.pt + (chrs s).length; omega
      · show T.S.pt + (chrs s).length ≤ insN T.S.pt (chrs s).length T.S.hi true; omega
  · rw [if_neg hE]
    exact hst w' (hA hE)
set_option maxHeartbeats 1000000 in
theorem bInsert (hT : Tabs N w) (hR : Rules N w) (h : PB N w b F T B) (hB : B ≤ 900000) (hro : T.S.ro = false) (s : ByteArray) (hs : s.size ≤ 262144) :
    Calls Tryz.prog 42 #[pAt b, .string s] w fun r w' => r = .returned (.int .i64 (fitsE s T.cs.length 0)) ∧ Only F w w' ∧ PB N w' b (grow F w.heap.size) (if fitsE s T.cs.length 0 = 0 then insT T (chrs s) false else T) (B + 4) := by
  have HI := Lib.hid (pinsert hT hR h hB hro s hs false)
  clear hT hR h hs hB hro
  generalize (if fitsE s T.cs.length 0 = 0 then insT T (chrs s) false else T) = T2 at *
  generalize fitsE s T.cs.length 0 = E at *
  go_enter Tryz.func42, Tryz.ntmps42
  go_wp2_with fail
  refine HI.out.mono ?_
  rintro r w' ⟨rfl, h1, h2⟩
  have H1 := Lib.hid h1
  have H2 := Lib.hid h2
  clear h1 h2
  go_wp2_with fail
  go_ret
  exact ⟨rfl, H1.out, H2.out⟩
end
end Go.Proofs.YtcfdalmllegefaaGreatDoor
/- gap.New, buffer.New: a new plain buffer's whole memory. -/
namespace Go.Proofs.YtcfdalmllegefaaGreatDoor
open Go.RowKit Go.Lib
set_option linter.unusedVariables false
set_option linter.unusedSimpArgs false
section
variable {w w' : World} {t g b l : Nat}
theorem gapX0 (h : Blk w t 192 (txtC g 0 0 0 0 (.slice none 0 0))) (hg : Blk w g 21 (rowR [])) (hn : t ≠ g) : GapX w t g (.slice none 0 0) [] 0 0 [] :=
  ⟨⟨h, hg, hn, by simp, by simp, by simp⟩, ROwn.nil _ _, fun k hk => (by simp [Value.ownBlock] at hk), rfl, fun c hc => (by cases hc), by simp⟩
theorem logX0 (h : Blk w l 197 (lgC (.slice none 0 0) (.slice none 0 0) 0 0)) : LogX w l (.slice none 0 0) (.slice none 0 0) [] [] [] (-1) 0 0 :=
  ⟨h, ROwn.nil _ _, rfl, fun i x g h1 h2 => (by simp at h1), ROwn.nil _ _, fun _ => rfl, fun k hk => (by simp [Value.ownBlock] at hk), fun k hk => (by simp [Value.ownBlock] at hk), fun x hx => (by cases hx)⟩
set_option maxRecDepth 100000 in
set_option maxHeartbeats 2000000 in
theorem gapNewX {N : Nat} (hT : Tabs N w) (hN : N ≤ w.heap.size) : Calls Tryz.prog 105 #[.string ⟨#[]⟩] w fun e w' => ∃ g t, e = .returned (.tuple #[pAt t, .int .i64 0]) ∧ Below w.heap.size w w' ∧ w.heap.size ≤ g ∧ g < t ∧ GapX w' t g (.slice none 0 0) [] 0 0 [] := by
  have hV := valid_any ⟨#[]⟩ w (by decide) hT
  rw [vldE] at hV
  have HV := Lib.hid hV
  have HT := Lib.hid hT
  clear hT hV
  go_enter Tryz.func105, Tryz.ntmps105
  go_wp2_with fail
  refine HV.out.mono ?_
  rintro e w1 ⟨rfl, hb1⟩
  have hw1 := hb1.size
  have hsz : (w1.alloc (.cells #[] 21)).heap.size = w1.heap.size + 1 := by simp
  have hk : Blk ((w1.alloc (.cells #[] 21)).alloc (.cells #[.slice (some ⟨w1.heap.size, 0, none⟩) 0 0, .int .i64 0, .int .i64 0, .slice none 0 0] 192)) (w1.heap.size + 1) 192 (txtC w1.heap.size 0 0 0 0 (.slice none 0 0)) := by
    have := Blk.made (w1.alloc (.cells #[] 21)) 192 (txtC w1.heap.size 0 0 0 0 (.slice none 0 0))
    rwa [hsz] at this
  have hb2 : Below w.heap.size w ((w1.alloc (.cells #[] 21)).alloc (.cells #[.slice (some ⟨w1.heap.size, 0, none⟩) 0 0, .int .i64 0, .int .i64 0, .slice none 0 0] 192)) := up2 hb1 (below2 w1 _ _)
  have hkg : Blk (w1.alloc (.cells #[] 21)) w1.heap.size 21 (rowR []) := by
    have := Blk.made w1 21 (rowR [])
    simpa [rowR] using this
  have hkg2 := Blk.up hkg (below1 _ (.cells #[.slice (some ⟨w1.heap.size, 0, none⟩) 0 0, .int .i64 0, .int .i64 0, .slice none 0 0] 192))
  have HKG := Lib.hid hkg2
  clear hkg hkg2
  have HK := Lib.hid hk
  have HB := Lib.hid hb2
  clear hk hb1 hb2 HV
  go_wp2_with fail
  refine (ginsertE (HT.out.up HB.out) HK.out (by omega)).mono ?_
  rintro e w3 ⟨rfl, ho3, hk3⟩
  go_wp2_with fail
  go_ret2
  exact ⟨_, _, rfl, (HB.out).trans (ho3.below HB.out.size (fun k hk => by omega)), hw1, Nat.lt_succ_self _, gapX0 hk3 (HKG.out.only ho3 (by omega)) (by omega)⟩
set_option maxRecDepth 100000 in
set_option maxHeartbeats 2000000 in
theorem bufNewX {N : Nat} (hT : Tabs N w) (hN : N ≤ w.heap.size) (pr ev lock : Int) : Calls Tryz.prog 41 #[.int .i64 pr, .int .i64 ev, .int .i64 lock] w fun e w' =>
    ∃ b t l m p o, e = .returned (pAt b) ∧ Below w.heap.size w w' ∧ PB N w' b (fun k => w.heap.size ≤ k ∧ k < w'.heap.size) ⟨freshS t m p o l lock, [], [], [], -1⟩ 0 := by
  have HT := Lib.hid hT
  clear hT
  go_enter Tryz.func41, Tryz.ntmps41
  go_wp2_with fail
  refine (gapNewX HT.out hN).mono ?_
  rintro e w1 ⟨g, t, rfl, hb1, hg1, hg2, ht1⟩
  have htl := ht1.gw.blk.lt
  have T1 := Lib.hid ht1
  have B1 := Lib.hid hb1
  clear hb1 ht1
  go_wp2_with fail
  refine (undo_new w1).mono ?_
  rintro e w2 ⟨rfl, hb2, hs2, hl2⟩
  replace hs2 := Nat.le_of_eq hs2.symm
  have T2 := Lib.hid (T1.out.up hb2)
  have B2 := Lib.hid (up2 B1.out hb2)
  have L2 := Lib.hid hl2
  clear hb2 hl2 T1 B1
  generalize w1.heap.size = l at *
  go_wp2_with fail
  refine (marks_new w2).mono ?_
  rintro e w3 ⟨rfl, hb3, hs3, hm3, hmm3⟩
  replace hs3 := Nat.le_of_eq hs3.symm
  have T3 := Lib.hid (T2.out.up hb3)
  have B3 := Lib.hid (up2 B2.out hb3)
  have L3 := Lib.hid (L2.out.up hb3)
  have M3 := Lib.hid (Mk0.made hm3 hmm3)
  clear hb3 hm3 hmm3 T2 B2 L2
  generalize w2.heap.size = mm at *
  go_wp2_with fail
  refine (props_new w3).mono ?_
  rintro e w4 ⟨rfl, hb4, hs4, hp4⟩
  replace hs4 := Nat.le_of_eq hs4.symm
  have T4 := Lib.hid (T3.out.up hb4)
  have B4 := Lib.hid (up2 B3.out hb4)
  have L4 := Lib.hid (L3.out.up hb4)
  have M4 := Lib.hid (M3.out.up hb4)
  have P4 := Lib.hid hp4
  clear hb4 hp4 T3 B3 L3 M3
  generalize w3.heap.size = p at *
  go_wp2_with fail
  refine (overs_new w4 pr ev).mono ?_
  rintro e w5 ⟨rfl, hb5, hs5, ho5⟩
  replace hs5 := Nat.le_of_eq hs5.symm
  have T5 := Lib.hid (T4.out.up hb5)
  have B5 := Lib.hid (up2 B4.out hb5)
  have L5 := Lib.hid (L4.out.up hb5)
  have M5 := Lib.hid (M4.out.up hb5)
  have P5 := Lib.hid (P4.out.up hb5)
  have O5 := Lib.hid ho5
  clear hb5 ho5 T4 B4 L4 M4 P4
  generalize w4.heap.size = o at *
  go_wp2_with fail
  go_ret
  have hb6 := below1 w5 (.cells (bufC (freshS t (mm + 1) p o l lock)) 116)
  have hk6 := Blk.made w5 116 (bufC (freshS t (mm + 1) p o l lock))
  have O6 := O5.out.up hb6
  have P6 := P5.out.up hb6
  have M6 := M5.out.up hb6
  have T6 := T5.out.up hb6
  have L6 : LogX _ l _ _ [] [] [] (-1) 0 0 := (logX0 (L5.out.up hb6))
  have hz : (w5.alloc (.cells (bufC (freshS t (mm + 1) p o l lock)) 116)).heap.size = w5.heap.size + 1 := by simp
  have hbz := up2 B5.out hb6
  refine ⟨w5.heap.size, t, l, mm + 1, p, o, rfl, hbz, ?_⟩
  have hlt : ∀ k, k ≤ w5.heap.size → k < (w5.alloc (.cells (bufC (freshS t (mm + 1) p o l lock)) 116)).heap.size := fun k hk => by rw [hz]; omega
  clear hz
  refine ⟨(fun k => k = t ∨ k = g), (fun k => k = l), mm, pr, ev, 0, 0, ⟨hk6, ⟨g, _, _, _, _, T6, ?_⟩, ⟨_, _, _, L6, ?_⟩, M6, P6, O6, rfl, ?_, ?_, ?_, ?_, ?_, ?_⟩, ⟨⟨?_, ?_, ?_, ?_, ?_⟩, ⟨by simp, by simp, by simp, by simp, by simp⟩, ?_, by simp, by simp, by simp, by simp, by simp, by simp, fun _ => rfl, by simp, rfl⟩⟩
  · intro k hk
    rcases hk with e | e | e
    · exact .inl e
    · exact .inr e
    · simp [Value.ownBlock] at e
  · intro k hk
    rcases hk with e | e | e | ⟨x, hx, _⟩
    · exact e
    · simp [Value.ownBlock] at e
    · simp [Value.ownBlock] at e
    · cases hx
  · intro k hk e; have e : k = l := e; rcases hk with h | h <;> omega
  · dsimp only; refine ⟨?_, ?_, ?_, ?_, ?_⟩ <;> (intro e; omega)
  · dsimp only; refine ⟨?_, ?_, ?_, ?_, ?_⟩ <;> (intro e; omega)
  · dsimp only; refine ⟨?_, ?_, ?_, ?_, ?_, ?_, ?_, ?_, ?_⟩ <;> omega
  · intro k hk; exact hlt k (by rcases hk with e | e <;> omega)
  · intro k hk; exact hlt k (by have e : k = l := hk; omega)
  · omega
  · intro k hk; rcases hk with e | e <;> omega
  · intro k hk; have e : k = l := hk; omega
  · show N ≤ p; omega
  · show N ≤ o; omega
  · intro k hk
    rcases hk with e | (e | e) | e | e | e | e | e
    · exact ⟨by omega, hlt k (by omega)⟩
    · exact ⟨by omega, hlt k (by omega)⟩
    · exact ⟨by omega, hlt k (by omega)⟩
    · have e : k = l := e; exact ⟨by omega, hlt k (by omega)⟩
    · have e : k = mm + 1 := e; exact ⟨by omega, hlt k (by omega)⟩
    · exact ⟨by omega, hlt k (by omega)⟩
    · have e : k = p := e; exact ⟨by omega, hlt k (by omega)⟩
    · have e : k = o := e; exact ⟨by omega, hlt k (by omega)⟩
end
end Go.Proofs.YtcfdalmllegefaaGreatDoor
/- package undo: Undo at any log. -/
namespace Go.Proofs.YtcfdalmllegefaaGreatDoor
open Go.RowKit Go.Lib
set_option linter.unusedVariables false
set_option linter.unusedSimpArgs false
/-- How many groups lie before the one undone last, as Undo lays it. -/
def chainN (again : Bool) (ch : Int) (n : Nat) : Int := if again = false ∨ ch < 0 then (n : Int) else ch
/-- What Undo answers. -/
def UndoP (w : World) (l : Nat) (F : Nat → Prop) (G' : List (List Chg)) (co : Int) (c : Int) (r : Ending) (w' : World) : Prop :=
  Only F w w' ∧ ∃ n, w.heap.size ≤ n ∧ n ≤ w'.heap.size ∧
    ((c = 0 ∧ r = .returned (.tuple #[.slice none 0 0, .int .i64 13]) ∧ LogF1 w' l (fun k => grow F w.heap.size k ∧ k < n) G' [] 0 co 0) ∨
     ∃ (m : Nat) (g : List Chg) (v : Value), c = ((m + 1 : Nat) : Int) ∧ G'[m]? = some g ∧ r = .returned (.tuple #[v, .int .i64 0]) ∧ LogF1 w' l (fun k => grow F w.heap.size k ∧ k < n) G' [] m co 0 ∧ ROwn encCg 239 9 n w' v g.reverse)
section
variable {w w' : World} {l : Nat} {F : Nat → Prop} {G : List (List Chg)} {O : List Chg} {ch co nw : Int} {gv ov : Value} {vs : List Sl3}
theorem LogX.setCh {k : Int} (h : LogX w l gv ov vs G O ch co nw) : LogX (w.setCell ⟨l, 3, none⟩ (.int .i64 k)) l gv ov vs G O k co nw := by
  have ho : Only (fun k => k = l) w (w.setCell ⟨l, 3, none⟩ (.int .i64 k)) := (Only.refl (fun k => k = l) w).setCell (p := ⟨l, 3, none⟩) rfl _
  have hk : ∀ j, j < w.heap.size → j ≠ l → (w.setCell ⟨l, 3, none⟩ (.int .i64 k)).heap[j]? = w.heap[j]? := fun j h1 h2 => ho.block j h1 h2
  refine ⟨h.blk.set (j := 3) (by simp) (.int .i64 k), h.gr.kept (fun j e => hk j (h.gr.lt e) (h.s2 j e)), h.len, fun i x g h1 h2 => ⟨(h.rows i x g h1 h2).1.kept (fun j e => hk j ((h.rows i x g h1 h2).1.lt e) (h.s3 x (List.mem_of_getElem? h1) j e).1), (h.rows i x g h1 h2).2⟩,
    h.op.kept (fun j e => hk j (h.op.lt e) (h.s1 j e).1), h.nil, h.s1, h.s2, h.s3⟩
end
end Go.Proofs.YtcfdalmllegefaaGreatDoor
