import Derived.Test.YtklaeecegkpgmaaGreatDoorJa
import Derived.Test.YtklaeecegkpgmaaGreatDoorJe
import Derived.IntWalk
import Derived.BigRegion
import Derived.RegionTactic
import Derived.ChangeAlike
/- sort.Search with a closure; package runes: Is, in, Width, Word. -/
namespace Go.Proofs.YtklaeecegkpgmaaGreatDoor
open Go.RowKit
set_option linter.unusedVariables false
set_option linter.unusedSimpArgs false
/-- A function that is entered when it is called. -/
def Enters (F : FuncId) : Prop := ∀ (args : Array Value) (w : World), (callFunc F args).run Tryz.prog w = .ok (.enter F args) w
theorem enters_mk {F : FuncId} {fn : Func} {c : Code} (hf : Tryz.prog.funcs[F]? = some fn) (hname : (fn.name == "runtime.NumGoroutine") = false) (hb : fn.body = some c) : Enters F := fun args w => by
  have h1 : fn.name ≠ "runtime.NumGoroutine" := by simpa using hname
  simp [callFunc, hf, h1, hb]
/-- What sort.Search hands back: the first place at which p holds. -/
def SearchP (w : World) (p : Nat → Bool) (n : Nat) (e : Ending) (w' : World) : Prop := Below w.heap.size w w' ∧ ∃ i, i ≤ n ∧ (∀ k, k < i → p k = false) ∧ (i < n → p i = true) ∧ e = .returned (.int .i64 i)
def int2 : Value → Value → Nat
  | .int _ a, .int _ b => (b - a).toNat
  | _, _ => 0
theorem half_int (a b : Nat) (h : a + b ≤ 2000000) : (IntKind.u64.wrap ((a : Int) + (b : Int))) = ((a + b : Nat) : Int) := by
  have e : ((a : Int) + (b : Int)) = ((a + b : Nat) : Int) := by omega
  rw [e]
  simp only [IntKind.wrap, IntKind.bits, IntKind.signed]
  first | omega | (simp; omega)
set_option maxRecDepth 100000 in
set_option maxHeartbeats 2000000 in
theorem search_any {F : FuncId} {caps : Array Value} {p : Nat → Bool} {w : World} (hF : Enters F) (n : Nat) (hn : n ≤ 1000000) (hmono : ∀ a b, a ≤ b → b < n → p a = true → p b = true)
    (hcl : ∀ k w1, k < n → Below w.heap.size w w1 → Calls Tryz.prog F (#[.int .i64 k] ++ caps) w1 fun e w2 => e = .returned (.bool (p k)) ∧ Below w1.heap.size w1 w2) :
    Calls Tryz.prog 140 #[.int .i64 n, .func (.func F) #[] caps] w (SearchP w p n) := by
  have HC := Lib.hid hcl
  have HM := Lib.hid hmono
  have hin : ∀ (args : Array Value) (w : World), (callFunc F args).run Tryz.prog w = .ok (.enter F args) w := hF
  clear hcl hmono hF
  go_enter Tryz.func140, Tryz.ntmps140
  go_wp2_with fail
  go_loopw [5, 6] (fun va vb wr => ∃ i j : Nat, i ≤ j ∧ j ≤ n ∧ va = .int .i64 i ∧ vb = .int .i64 j ∧ (∀ k, k < i → p k = false) ∧ (∀ k, j ≤ k → k < n → p k = true) ∧ Below w.heap.size w wr) (fun va vb _ => int2 va vb)
  case atStart => exact ⟨0, n, Nat.zero_le _, Nat.le_refl _, rfl, rfl, fun k h => by omega, fun k h h2 => by omega, Below.refl _ w⟩
  case round =>
    obtain ⟨i, j, hij, hjn, rfl, rfl, hlo, hhi, hbel⟩ := hrel
    have HLO := Lib.hid hlo
    have HHI := Lib.hid hhi
    have HB := Lib.hid hbel
    clear hlo hhi hbel
    by_cases hlt : i < j
    · have d1 : decide ((i : Int) < j) = true := decide_eq_true (by omega)
      have s1 : IntKind.i64.wrap ((i : Int) + j) = (i : Int) + j := IntWalk.i64_in _ (by omega)
      have s2 := half_int i j (by omega)
      obtain ⟨h, hh⟩ : ∃ h, h = (i + j) / 2 := ⟨_, rfl⟩
      have HCH := Lib.hid (HC.out h wr (by omega) HB.out)
      have HHH := Lib.hid hh
      have b1 : i ≤ h := by omega
      have b2 : h < j := by omega
      have s3 : IntKind.i64.wrap ((h : Int) + 1) = ((h + 1 : Nat) : Int) := by rw [IntWalk.i64_in _ (by omega)]; omega
      have e1 : ((i : Int) + (j : Int)) / 2 = (h : Int) := by omega
      clear hh
      cases hp : p h with
      | true =>
        have HP := Lib.hid hp
        rw [hp] at HCH
        clear hp
        go_wp2_with fail
        refine HCH.out.mono ?_
        rintro e w1 ⟨rfl, hb1⟩
        go_wp2_with fail
        go_roundw
        case rel => exact ⟨i, h, b1, by omega, rfl, rfl, HLO.out, fun k hk hk2 => HM.out h k hk hk2 HP.out, up2 HB.out hb1⟩
        case measure => simp [int2]; omega
      | false =>
        have HP := Lib.hid hp
        rw [hp] at HCH
        clear hp
        go_wp2_with fail
        refine HCH.out.mono ?_
        rintro e w1 ⟨rfl, hb1⟩
        go_wp2_with fail
        go_roundw
        case rel =>
          refine ⟨h + 1, j, by omega, hjn, by first | rfl | go_num, rfl, fun k hk => ?_, HHI.out, up2 HB.out hb1⟩
          cases hk2 : p k with
          | false => rfl
          | true => have := HM.out k h (by omega) (by omega) hk2; rw [HP.out] at this; cases this
        case measure => simp [int2]; omega
    · have d1 : decide ((i : Int) < j) = false := decide_eq_false (by omega)
      have hij' : i = j := by omega
      go_wp2_with fail
      go_ret
      exact ⟨HB.out, i, by omega, HLO.out, fun hi => HHI.out i (by omega) hi, rfl⟩

/-- A character lies in one of the spans. -/
def inS (c : Int) (L : List (Int × Int)) : Bool := match L.find? (fun x => decide (c ≤ x.2)) with | some x => decide (x.1 ≤ c) | none => false
abbrev encSp (x : Int × Int) : List Value := [.int .i64 x.1, .int .i64 x.2]
theorem eltSp : Elt encSp 128 125 2 16 (.agg #[.int .i64 0, .int .i64 0]) := ⟨Tryz.underlying128, by kernel_rfl, rfl, by omega, fun _ => rfl, fun x u hu => by simp at hu; rcases hu with rfl | rfl <;> rfl⟩
section
variable {w w' : World} {A : Option Addr} {c : Int} {L : List (Int × Int)}
def spP (c : Int) (L : List (Int × Int)) (k : Nat) : Bool := match L[k]? with | some x => decide (c ≤ x.2) | none => false
set_option maxHeartbeats 1000000 in
theorem in_clos {bs bc : Nat} (hc : w.cell? ⟨bc, 0, none⟩ = some (.int .i64 c)) (cp : Nat) (hs : w.cell? ⟨bs, 0, none⟩ = some (.slice A L.length cp)) (hL : RSl encSp w A L) (k : Nat) (hk : k < L.length) (hl : L.length ≤ 1000) :
    Calls Tryz.prog 141 #[.int .i64 k, .pointer (some ⟨bs, 0, none⟩), .pointer (some ⟨bc, 0, none⟩)] w fun e w' => e = .returned (.bool (spP c L k)) ∧ Below w.heap.size w w' := by
  obtain ⟨x, hx⟩ : ∃ x, L[k]? = some x := ⟨_, List.getElem?_eq_getElem hk⟩
  unfold spP
  rw [hx]
  obtain ⟨g, o, rfl, hg, hat⟩ := hL.at_ eltSp hx
  have k1 := hat 1 _ rfl
  rw [← Nat.add_assoc] at k1
  have hk' : (k : Int) < L.length := by omega
  clear hat hL hx hk
  simp only []
  cases hd : decide (c ≤ x.2) with
  | true =>
    go_enter Tryz.func141, Tryz.ntmps141
    go_wp2_with fail
    go_region
    go_wp2_with fail
    go_ret
    exact ⟨rfl, (Below.refl _ w).drew⟩
  | false =>
    go_enter Tryz.func141, Tryz.ntmps141
    go_wp2_with fail
    go_region
    go_wp2_with fail
    go_ret
    exact ⟨rfl, (Below.refl _ w).drew⟩
theorem spP_mono (hs : L.Pairwise (fun a b => a.2 ≤ b.2)) : ∀ a b, a ≤ b → b < L.length → spP c L a = true → spP c L b = true := by
  intro a b hab hb
  unfold spP
  rw [List.getElem?_eq_getElem (show a < L.length by omega), List.getElem?_eq_getElem hb]
  simp only [decide_eq_true_eq]
  intro h
  rcases Nat.lt_or_ge a b with h1 | h1
  · have := List.pairwise_iff_getElem.1 hs a b (by omega) hb h1; omega
  · obtain rfl : a = b := by omega
    exact h
theorem inS_find {i : Nat} (hi : i ≤ L.length) (hno : ∀ k, k < i → spP c L k = false) (hyes : i < L.length → spP c L i = true) : inS c L = match L[i]? with | some x => decide (x.1 ≤ c) | none => false := by
  unfold inS
  by_cases hlt : i < L.length
  · have h1 : L.find? (fun x => decide (c ≤ x.2)) = some L[i] := by
      rw [List.find?_eq_some_iff_getElem]
      refine ⟨by have := hyes hlt; unfold spP at this; rw [List.getElem?_eq_getElem hlt] at this; exact this, i, hlt, rfl, fun j hj => ?_⟩
      have := hno j hj
      unfold spP at this
      rw [List.getElem?_eq_getElem (show j < L.length by omega)] at this
      simpa using this
    rw [h1, List.getElem?_eq_getElem hlt]
  · have h1 : L.find? (fun x => decide (c ≤ x.2)) = none := by
      rw [List.find?_eq_none]
      intro x hx
      obtain ⟨j, hj, rfl⟩ := List.getElem_of_mem hx
      have := hno j (by omega)
      unfold spP at this
      rw [List.getElem?_eq_getElem hj] at this
      simpa using this
    rw [h1, List.getElem?_eq_none (by omega)]
set_option maxRecDepth 100000 in
set_option maxHeartbeats 2000000 in
theorem in_any (hL : RSl encSp w A L) (cp : Nat) (hs : L.Pairwise (fun a b => a.2 ≤ b.2)) (hl : L.length ≤ 1000) :
    Calls Tryz.prog 102 #[.int .i64 c, .slice A L.length cp] w fun e w' => e = .returned (.bool (inS c L)) ∧ Below w.heap.size w w' := by
  obtain ⟨R, hRR⟩ : ∃ R, R = inS c L := ⟨_, rfl⟩
  rw [← hRR]
  have HRR := Lib.hid hRR
  clear hRR
  have HS := Lib.hid hs
  have HL := Lib.hid hL
  clear hL hs
  go_enter Tryz.func102, Tryz.ntmps102
  go_wp2_with fail
  have hb1 : Below w.heap.size w ((w.alloc (.cells #[.int .i64 c] 3)).alloc (.cells #[.slice A L.length cp] 128)) := (below1 w _).alloc (by simp) _
  have h0 : (w.alloc (.cells #[.int .i64 c] 3)).heap.size = w.heap.size + 1 := by simp
  have e0 : ((w.alloc (.cells #[.int .i64 c] 3)).alloc (.cells #[.slice A L.length cp] 128)).cell? ⟨w.heap.size, 0, none⟩ = some (.int .i64 c) := by
    rw [World.cell?_of_block (w := w.alloc (.cells #[.int .i64 c] 3)) (a := ⟨w.heap.size, 0, none⟩) ((MapKept.heap_alloc _ _).2 _ (by simp))]
    simp only [World.cell?, (MapKept.heap_alloc w (.cells #[.int .i64 c] 3)).1]
    rfl
  have e1 : ((w.alloc (.cells #[.int .i64 c] 3)).alloc (.cells #[.slice A L.length cp] 128)).cell? ⟨w.heap.size + 1, 0, none⟩ = some (.slice A L.length cp) := by
    have := (MapKept.heap_alloc (w.alloc (.cells #[.int .i64 c] 3)) (.cells #[.slice A L.length cp] 128)).1
    rw [h0] at this
    simp only [World.cell?, this]
    rfl
  have HBB := Lib.hid hb1
  generalize hW : (w.alloc (.cells #[.int .i64 c] 3)).alloc (.cells #[.slice A L.length cp] 128) = W at *
  have HSr := search_any (w := W) (F := 141) (caps := #[.pointer (some ⟨w.heap.size + 1, 0, none⟩), .pointer (some ⟨w.heap.size, 0, none⟩)]) (p := spP c L) (enters_mk Tryz.func141 (by kernel_rfl) rfl) L.length (by omega) (spP_mono HS.out)
    (fun k w1 hk hb => in_clos (((World.cell?_of_block (w := W) (a := ⟨w.heap.size, 0, none⟩) (hb.block _ (lt_of_cell e0))).trans e0)) cp ((World.cell?_of_block (w := W) (a := ⟨w.heap.size + 1, 0, none⟩) (hb.block _ (lt_of_cell e1))).trans e1) ((HL.out.up HBB.out).up hb) k hk hl)
  refine HSr.mono ?_
  rintro e w1 ⟨hb2, i, hi, hno, hyes, rfl⟩
  have hin := HRR.out.trans (inS_find hi hno hyes)
  have c0 := (World.cell?_of_block (w := W) (a := ⟨w.heap.size, 0, none⟩) (hb2.block _ (lt_of_cell e0))).trans e0
  have c1 := (World.cell?_of_block (w := W) (a := ⟨w.heap.size + 1, 0, none⟩) (hb2.block _ (lt_of_cell e1))).trans e1
  have hR := (HL.out.up HBB.out).up hb2
  have HB2 := Lib.hid (up2 HBB.out hb2)
  clear HSr hno hyes HRR e0 e1 hb1 hb2 h0 HBB hW
  by_cases hlt : i < L.length
  · obtain ⟨x, hx⟩ : ∃ x, L[i]? = some x := ⟨_, List.getElem?_eq_getElem hlt⟩
    rw [hx] at hin
    obtain ⟨g, o, rfl, hg, hat⟩ := hR.at_ eltSp hx
    have k0 := hat 0 _ rfl
    rw [Nat.add_zero] at k0
    have d1 : decide ((i : Int) < L.length) = true := decide_eq_true (by omega)
    have hlt' : (i : Int) < L.length := by omega
    clear hat hR hx hlt hi
    simp only [] at hin
    cases hd : decide (x.1 ≤ c) with
    | true =>
      rw [hd] at hin
      subst hin
      go_wp2_with fail
      go_region
      go_wp2_with fail
      go_ret
      exact ⟨rfl, HB2.out.drew⟩
    | false =>
      rw [hd] at hin
      subst hin
      go_wp2_with fail
      go_region
      go_wp2_with fail
      go_ret
      exact ⟨rfl, HB2.out.drew⟩
  · rw [List.getElem?_eq_none (by omega)] at hin
    simp only [] at hin
    subst hin
    have d1 : decide ((i : Int) < L.length) = false := decide_eq_false (by omega)
    clear hR
    go_wp2_with fail
    go_region
    go_wp2_with fail
    go_ret
    exact ⟨rfl, HB2.out.drew⟩
end
end Go.Proofs.YtklaeecegkpgmaaGreatDoor
