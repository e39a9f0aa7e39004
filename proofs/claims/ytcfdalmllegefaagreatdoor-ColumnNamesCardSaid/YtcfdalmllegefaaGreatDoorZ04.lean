import Derived.Test.YtcfdalmllegefaaGreatDoorZ00
import Derived.Test.YtcfdalmllegefaaGreatDoorZ01
import Derived.Test.YtcfdalmllegefaaGreatDoorZ03
import Derived.IntWalk
import Derived.BigRegion
import Derived.RegionTactic
import Derived.ChangeAlike
import Derived.Laws.IdiomCopy
import Derived.Laws.MakeOwn
import Derived.Test.YtcfdalmllegefaaGreatDoorZ02
/- sort.Search with a closure; package runes: Is, in, Width, Word. -/
namespace Go.Proofs.YtcfdalmllegefaaGreatDoor
open Go.RowKit
set_option linter.unusedVariables false
set_option linter.unusedSimpArgs false
/-- A function that is entered when it is called. -/
def Enters (F : FuncId) : Prop := ∀ (args : Array Value) (w : World), (callFunc F args).run Tryz.prog w = .ok (.enter F args) w
theorem enters_mk {F : FuncId} {fn : Func} {c : Code} (hf : Tryz.prog.funcs[F]? = some fn) (hname : (fn.name == "runtime.NumGoroutine") = false) (hb : fn.body = some c) : Enters F := fun args w => by
  have h1 : fn.name ≠ "runtime.NumGoroutine" := by simpa using hname
  simp [callFunc, hf, h1, hb]
/-- What sort.Search hands back: the first place at which p holds. -/
def SearchP (w : World) (p : Nat → Bool) (n : Nat) (e : Ending) (w' : World) : Prop := Below w.heap.size w w' ∧ ∃ i, i ≤ n ∧ (∀ k, k < i → p k = false) ∧ (i < n → p i = true) ∧ e = .returned (.int .i64 i)
def int2 : Value → Value → Nat
  | .int _ a, .int _ b => (b - a).toNat
  | _, _ => 0
theorem half_int (a b : Nat) (h : a + b ≤ 2000000) : (IntKind.u64.wrap ((a : Int) + (b : Int))) = ((a + b : Nat) : Int) := by
  have e : ((a : Int) + (b : Int)) = ((a + b : Nat) : Int) := by omega
  rw [e]
  simp only [IntKind.wrap, IntKind.bits, IntKind.signed]
  first | omega | (simp; omega)
set_option maxRecDepth 100000 in
set_option maxHeartbeats 2000000 in
theorem search_any {F : FuncId} {caps : Array Value} {p : Nat → Bool} {w : World} (hF : Enters F) (n : Nat) (hn : n ≤ 1000000) (hmono : ∀ a b, a ≤ b → b < n → p a = true → p b = true)
    (hcl : ∀ k w1, k < n → Below w.heap.size w w1 → Calls Tryz.prog F (#[.int .i64 k] ++ caps) w1 fun e w2 => e = .returned (.bool (p k)) ∧ Below w1.heap.size w1 w2) :
    Calls Tryz.prog 293 #[.int .i64 n, .func (.func F) #[] caps] w (SearchP w p n) := by
  have HC := Lib.hid hcl
  have HM := Lib.hid hmono
  have hin : ∀ (args : Array Value) (w : World), (callFunc F args).run Tryz.prog w = .ok (.enter F args) w := hF
  clear hcl hmono hF
  go_enter Tryz.func293, Tryz.ntmps293
  go_wp2_with fail
  go_loopw [5, 6] (fun va vb wr => ∃ i j : Nat, i ≤ j ∧ j ≤ n ∧ va = .int .i64 i ∧ vb = .int .i64 j ∧ (∀ k, k < i → p k = false) ∧ (∀ k, j ≤ k → k < n → p k = true) ∧ Below w.heap.size w wr) (fun va vb _ => int2 va vb)
  case atStart => exact ⟨0, n, Nat.zero_le _, Nat.le_refl _, rfl, rfl, fun k h => by omega, fun k h h2 => by omega, Below.refl _ w⟩
  case round =>
    obtain ⟨i, j, hij, hjn, rfl, rfl, hlo, hhi, hbel⟩ := hrel
    have HLO := Lib.hid hlo
    have HHI := Lib.hid hhi
    have HB := Lib.hid hbel
    clear hlo hhi hbel
    by_cases hlt : i < j
    · have d1 : decide ((i : Int) < j) = true := decide_eq_true (by omega)
      have s1 : IntKind.i64.wrap ((i : Int) + j) = (i : Int) + j := IntWalk.i64_in _ (by omega)
      have s2 := half_int i j (by omega)
      obtain ⟨h, hh⟩ : ∃ h, h = (i + j) / 2 := ⟨_, rfl⟩
      have HCH := Lib.hid (HC.out h wr (by omega) HB.out)
      have HHH := Lib.hid hh
      have b1 : i ≤ h := by omega
      have b2 : h < j := by omega
      have s3 : IntKind.i64.wrap ((h : Int) + 1) = ((h + 1 : Nat) : Int) := by rw [IntWalk.i64_in _ (by omega)]; omega
      have e1 : ((i : Int) + (j : Int)) / 2 = (h : Int) := by omega
      clear hh
      cases hp : p h with
      | true =>
        have HP := Lib.hid hp
        rw [hp] at HCH
        clear hp
        go_wp2_with fail
        refine HCH.out.mono ?_
        rintro e w1 ⟨rfl, hb1⟩
        go_wp2_with fail
        go_roundw
        case rel => exact ⟨i, h, b1, by omega, rfl, rfl, HLO.out, fun k hk hk2 => HM.out h k hk hk2 HP.out, up2 HB.out hb1⟩
        case measure => simp [int2]; omega
      | false =>
        have HP := Lib.hid hp
        rw [hp] at HCH
        clear hp
        go_wp2_with fail
        refine HCH.out.mono ?_
        rintro e w1 ⟨rfl, hb1⟩
        go_wp2_with fail
        go_roundw
        case rel =>
          refine ⟨h + 1, j, by omega, hjn, by first | rfl | go_num, rfl, fun k hk => ?_, HHI.out, up2 HB.out hb1⟩
          cases hk2 : p k with
          | false => rfl
          | true => have := HM.out k h (by omega) (by omega) hk2; rw [HP.out] at this; cases this
        case measure => simp [int2]; omega
    · have d1 : decide ((i : Int) < j) = false := decide_eq_false (by omega)
      have hij' : i = j := by omega
      go_wp2_with fail
      go_ret
      exact ⟨HB.out, i, by omega, HLO.out, fun hi => HHI.out i (by omega) hi, rfl⟩

/-- A character lies in one of the spans. -/
def inS (c : Int) (L : List (Int × Int)) : Bool := match L.find? (fun x => decide (c ≤ x.2)) with | some x => decide (x.1 ≤ c) | none => false
abbrev encSp (x : Int × Int) : List Value := [.int .i64 x.1, .int .i64 x.2]
theorem eltSp : Elt encSp 259 256 2 16 (.agg #[.int .i64 0, .int .i64 0]) := ⟨Tryz.underlying259, by kernel_rfl, rfl, by omega, fun _ => rfl, fun x u hu => by simp at hu; rcases hu with rfl | rfl <;> rfl⟩
section
variable {w w' : World} {A : Option Addr} {c : Int} {L : List (Int × Int)}
def spP (c : Int) (L : List (Int × Int)) (k : Nat) : Bool := match L[k]? with | some x => decide (c ≤ x.2) | none => false
set_option maxHeartbeats 1000000 in
theorem in_clos {bs bc : Nat} (hc : w.cell? ⟨bc, 0, none⟩ = some (.int .i64 c)) (cp : Nat) (hs : w.cell? ⟨bs, 0, none⟩ = some (.slice A L.length cp)) (hL : RSl encSp w A L) (k : Nat) (hk : k < L.length) (hl : L.length ≤ 1000) :
    Calls Tryz.prog 294 #[.int .i64 k, .pointer (some ⟨bs, 0, none⟩), .pointer (some ⟨bc, 0, none⟩)] w fun e w' => e = .returned (.bool (spP c L k)) ∧ Below w.heap.size w w' := by
  obtain ⟨x, hx⟩ : ∃ x, L[k]? = some x := ⟨_, List.getElem?_eq_getElem hk⟩
  unfold spP
  rw [hx]
  obtain ⟨g, o, rfl, hg, hat⟩ := hL.at_ eltSp hx
  have k1 := hat 1 _ rfl
  rw [← Nat.add_assoc] at k1
  have hk' : (k : Int) < L.length := by omega
  clear hat hL hx hk
  simp only []
  cases hd : decide (c ≤ x.2) with
  | true =>
    go_enter Tryz.func294, Tryz.ntmps294
    go_wp2_with fail
    go_region
    go_wp2_with fail
    go_ret
    exact ⟨rfl, (Below.refl _ w).drew⟩
  | false =>
    go_enter Tryz.func294, Tryz.ntmps294
    go_wp2_with fail
    go_region
    go_wp2_with fail
    go_ret
    exact ⟨rfl, (Below.refl _ w).drew⟩
theorem spP_mono (hs : L.Pairwise (fun a b => a.2 ≤ b.2)) : ∀ a b, a ≤ b → b < L.length → spP c L a = true → spP c L b = true := by
  intro a b hab hb
  unfold spP
  rw [List.getElem?_eq_getElem (show a < L.length by omega), List.getElem?_eq_getElem hb]
  simp only [decide_eq_true_eq]
  intro h
  rcases Nat.lt_or_ge a b with h1 | h1
  · have := List.pairwise_iff_getElem.1 hs a b (by omega) hb h1; omega
  · obtain rfl : a = b := by omega
    exact h
theorem inS_find {i : Nat} (hi : i ≤ L.length) (hno : ∀ k, k < i → spP c L k = false) (hyes : i < L.length → spP c L i = true) : inS c L = match L[i]? with | some x => decide (x.1 ≤ c) | none => false := by
  unfold inS
  by_cases hlt : i < L.length
  · have h1 : L.find? (fun x => decide (c ≤ x.2)) = some L[i] := by
      rw [List.find?_eq_some_iff_getElem]
      refine ⟨by have := hyes hlt; unfold spP at this; rw [List.getElem?_eq_getElem hlt] at this; exact this, i, hlt, rfl, fun j hj => ?_⟩
      have := hno j hj
      unfold spP at this
      rw [List.getElem?_eq_getElem (show j < L.length by omega)] at this
      simpa using this
    rw [h1, List.getElem?_eq_getElem hlt]
  · have h1 : L.find? (fun x => decide (c ≤ x.2)) = none := by
      rw [List.find?_eq_none]
      intro x hx
      obtain ⟨j, hj, rfl⟩ := List.getElem_of_mem hx
      have := hno j (by omega)
      unfold spP at this
      rw [List.getElem?_eq_getElem hj] at this
      simpa using this
    rw [h1, List.getElem?_eq_none (by omega)]
set_option maxRecDepth 100000 in
set_option maxHeartbeats 2000000 in
theorem in_any (hL : RSl encSp w A L) (cp : Nat) (hs : L.Pairwise (fun a b => a.2 ≤ b.2)) (hl : L.length ≤ 1000) :
    Calls Tryz.prog 226 #[.int .i64 c, .slice A L.length cp] w fun e w' => e = .returned (.bool (inS c L)) ∧ Below w.heap.size w w' := by
  obtain ⟨R, hRR⟩ : ∃ R, R = inS c L := ⟨_, rfl⟩
  rw [← hRR]
  have HRR := Lib.hid hRR
  clear hRR
  have HS := Lib.hid hs
  have HL := Lib.hid hL
  clear hL hs
  go_enter Tryz.func226, Tryz.ntmps226
  go_wp2_with fail
  have hb1 : Below w.heap.size w ((w.alloc (.cells #[.int .i64 c] 3)).alloc (.cells #[.slice A L.length cp] 259)) := (below1 w _).alloc (by simp) _
  have h0 : (w.alloc (.cells #[.int .i64 c] 3)).heap.size = w.heap.size + 1 := by simp
  have e0 : ((w.alloc (.cells #[.int .i64 c] 3)).alloc (.cells #[.slice A L.length cp] 259)).cell? ⟨w.heap.size, 0, none⟩ = some (.int .i64 c) := by
    rw [World.cell?_of_block (w := w.alloc (.cells #[.int .i64 c] 3)) (a := ⟨w.heap.size, 0, none⟩) ((MapKept.heap_alloc _ _).2 _ (by simp))]
    simp only [World.cell?, (MapKept.heap_alloc w (.cells #[.int .i64 c] 3)).1]
    rfl
  have e1 : ((w.alloc (.cells #[.int .i64 c] 3)).alloc (.cells #[.slice A L.length cp] 259)).cell? ⟨w.heap.size + 1, 0, none⟩ = some (.slice A L.length cp) := by
    have := (MapKept.heap_alloc (w.alloc (.cells #[.int .i64 c] 3)) (.cells #[.slice A L.length cp] 259)).1
    rw [h0] at this
    simp only [World.cell?, this]
    rfl
  have HBB := Lib.hid hb1
  generalize hW : (w.alloc (.cells #[.int .i64 c] 3)).alloc (.cells #[.slice A L.length cp] 259) = W at *
  have HSr := search_any (w := W) (F := 294) (caps := #[.pointer (some ⟨w.heap.size + 1, 0, none⟩), .pointer (some ⟨w.heap.size, 0, none⟩)]) (p := spP c L) (enters_mk Tryz.func294 (by kernel_rfl) rfl) L.length (by omega) (spP_mono HS.out)
    (fun k w1 hk hb => in_clos (((World.cell?_of_block (w := W) (a := ⟨w.heap.size, 0, none⟩) (hb.block _ (lt_of_cell e0))).trans e0)) cp ((World.cell?_of_block (w := W) (a := ⟨w.heap.size + 1, 0, none⟩) (hb.block _ (lt_of_cell e1))).trans e1) ((HL.out.up HBB.out).up hb) k hk hl)
  refine HSr.mono ?_
  rintro e w1 ⟨hb2, i, hi, hno, hyes, rfl⟩
  have hin := HRR.out.trans (inS_find hi hno hyes)
  have c0 := (World.cell?_of_block (w := W) (a := ⟨w.heap.size, 0, none⟩) (hb2.block _ (lt_of_cell e0))).trans e0
  have c1 := (World.cell?_of_block (w := W) (a := ⟨w.heap.size + 1, 0, none⟩) (hb2.block _ (lt_of_cell e1))).trans e1
  have hR := (HL.out.up HBB.out).up hb2
  have HB2 := Lib.hid (up2 HBB.out hb2)
  clear HSr hno hyes HRR e0 e1 hb1 hb2 h0 HBB hW
  by_cases hlt : i < L.length
  · obtain ⟨x, hx⟩ : ∃ x, L[i]? = some x := ⟨_, List.getElem?_eq_getElem hlt⟩
    rw [hx] at hin
    obtain ⟨g, o, rfl, hg, hat⟩ := hR.at_ eltSp hx
    have k0 := hat 0 _ rfl
    rw [Nat.add_zero] at k0
    have d1 : decide ((i : Int) < L.length) = true := decide_eq_true (by omega)
    have hlt' : (i : Int) < L.length := by omega
    clear hat hR hx hlt hi
    simp only [] at hin
    cases hd : decide (x.1 ≤ c) with
    | true =>
      rw [hd] at hin
      subst hin
      go_wp2_with fail
      go_region
      go_wp2_with fail
      go_ret
      exact ⟨rfl, HB2.out.drew⟩
    | false =>
      rw [hd] at hin
      subst hin
      go_wp2_with fail
      go_region
      go_wp2_with fail
      go_ret
      exact ⟨rfl, HB2.out.drew⟩
  · rw [List.getElem?_eq_none (by omega)] at hin
    simp only [] at hin
    subst hin
    have d1 : decide ((i : Int) < L.length) = false := decide_eq_false (by omega)
    clear hR
    go_wp2_with fail
    go_region
    go_wp2_with fail
    go_ret
    exact ⟨rfl, HB2.out.drew⟩
end
end Go.Proofs.YtcfdalmllegefaaGreatDoor
/- Package buffer: first over checks, unless. -/
namespace Go.Proofs.YtcfdalmllegefaaGreatDoor
open Go.RowKit
set_option linter.unusedVariables false
set_option linter.unusedSimpArgs false
/-- A check: a function value without parameters, and the error that it hands back. -/
structure Chk where
  F : FuncId
  bd : Array Value
  cp : Array Value
  e : Int
abbrev Chk.val (c : Chk) : Value := .func (.func c.F) c.bd c.cp
def firstE : List Chk → Int
  | [] => 0
  | c :: L => if c.e = 0 then firstE L else c.e
theorem firstE_drop : ∀ (L : List Chk) (i : Nat), (∀ j c, L[j]? = some c → j < i → c.e = 0) → firstE (L.drop i) = firstE L
  | L, 0, _ => rfl
  | [], i + 1, _ => by simp
  | c :: L, i + 1, h => by
    have h0 : c.e = 0 := h 0 c rfl (by omega)
    rw [List.drop_succ_cons, firstE_drop L i (fun j d hd hj => h (j + 1) d (by simpa using hd) (by omega)), firstE, if_pos h0]
abbrev encK (c : Chk) : List Value := [c.val]
theorem eltK : Elt encK 223 69 1 8 Value.nilFunc := ⟨Tryz.underlying223, by kernel_rfl, rfl, by omega, fun _ => rfl, fun x u hu => by simp at hu; rcases hu with rfl; rfl⟩
section
variable {w w' : World} {A : Option Addr} {L : List Chk}
set_option maxHeartbeats 1000000 in
theorem first_any (hL : RSl encK w A L) (cap : Nat) (hl : L.length ≤ 1000) (hF : ∀ c ∈ L, Enters c.F)
    (hc : ∀ (i : Nat) (c : Chk) (w1 : World), L[i]? = some c → (∀ (j : Nat) (d : Chk), L[j]? = some d → j < i → d.e = 0) → Below w.heap.size w w1 → Calls Tryz.prog c.F (c.bd ++ c.cp) w1 fun r w2 => r = .returned (.int .i64 c.e) ∧ Below w1.heap.size w1 w2) :
    Calls Tryz.prog 124 #[.slice A L.length cap] w fun r w' => r = .returned (.int .i64 (firstE L)) ∧ Below w.heap.size w w' := by
  have HC := Lib.hid hc
  have HL := Lib.hid hL
  have HF := Lib.hid hF
  clear hc hL hF
  go_enter Tryz.func124, Tryz.ntmps124
  go_wp2_with fail
  go_loopw [8] (fun va wr => ∃ i : Nat, i ≤ L.length ∧ va = .int .i64 i ∧ (∀ (j : Nat) (d : Chk), L[j]? = some d → j < i → d.e = 0) ∧ Below w.heap.size w wr) (fun va _ => int2 va (.int .i64 L.length))
  case atStart => exact ⟨0, Nat.zero_le _, rfl, fun j d _ h => by omega, Below.refl _ w⟩
  case round =>
    obtain ⟨i, hi, rfl, hz, hb⟩ := hrel
    have HZ := Lib.hid hz
    have HB := Lib.hid hb
    clear hz hb
    by_cases hlt : i < L.length
    · have d1 : decide ((i : Int) < L.length) = true := decide_eq_true (by omega)
      obtain ⟨c, hx⟩ : ∃ c, L[i]? = some c := ⟨_, List.getElem?_eq_getElem hlt⟩
      obtain ⟨g, o, rfl, hg, hat⟩ := (HL.out.up HB.out).at_ eltK hx
      have k0 := hat 0 _ rfl
      rw [Nat.mul_one, Nat.add_zero] at k0
      have hlt' : (i : Int) < L.length := by omega
      have s1 : IntKind.i64.wrap ((i : Int) + 1) = ((i + 1 : Nat) : Int) := by rw [IntWalk.i64_in _ (by omega)]; omega
      have hin : ∀ (args : Array Value) (w : World), (callFunc c.F args).run Tryz.prog w = .ok (.enter c.F args) w := HF.out c (List.mem_of_getElem? hx)
      have HX := Lib.hid hx
      have HCC := Lib.hid (HC.out i c wr hx HZ.out HB.out)
      clear hat hg hx
      obtain ⟨F, bd, cp, e⟩ := c
      by_cases he : e = 0
      · have HE := Lib.hid he
        have d2 : ((e : Int) != 0) = false := by simp [he]
        clear he
        go_wp2_with fail
        refine HCC.out.mono ?_
        rintro r w1 ⟨rfl, hb1⟩
        go_wp2_with fail
        go_roundw
        case rel =>
          refine ⟨i + 1, by omega, by first | rfl | go_num, fun j d hd hj => ?_, up2 HB.out hb1⟩
          by_cases hji : j = i
          · subst hji
            rw [HX.out] at hd; cases hd; exact HE.out
          · exact HZ.out j d hd (by omega)
        case measure => simp [int2]; omega
      · have HE := Lib.hid he
        have d2 : ((e : Int) != 0) = true := by simp [he]
        clear he
        go_wp2_with fail
        refine HCC.out.mono ?_
        rintro r w1 ⟨rfl, hb1⟩
        go_wp2_with fail
        go_ret
        refine ⟨?_, up2 HB.out hb1⟩
        rw [← firstE_drop L i HZ.out, List.drop_eq_getElem_cons hlt, (List.getElem_eq_iff hlt).2 HX.out, firstE, if_neg HE.out]; rfl
    · have d1 : decide ((i : Int) < L.length) = false := decide_eq_false (by omega)
      go_wp2_with fail
      go_ret
      refine ⟨?_, HB.out⟩
      rw [← firstE_drop L i HZ.out, List.drop_eq_nil_of_le (by omega)]; rfl
end
end Go.Proofs.YtcfdalmllegefaaGreatDoor
/- A buffer in memory, read: none, Size, Point, Reach, Char, Find, FindBack. -/
namespace Go.Proofs.YtcfdalmllegefaaGreatDoor
open Go.RowKit
set_option linter.unusedVariables false
set_option linter.unusedSimpArgs false

/-- The buffer object at block b: point, the accessible part, the text. -/
structure BufI (w : World) (b t g : Nat) (cs : List Nat) (pt lo hi : Nat) : Prop where
  c0 : w.cell? ⟨b, 0, none⟩ = some (.int .i64 pt)
  c1 : w.cell? ⟨b, 1, none⟩ = some (.int .i64 lo)
  c2 : w.cell? ⟨b, 2, none⟩ = some (.int .i64 hi)
  c9 : w.cell? ⟨b, 9, none⟩ = some (.pointer (some ⟨t, 0, none⟩))
  gap : GapR w t g cs
  hbt : b ≠ t
  hbg : b ≠ g
  h1 : 1 ≤ lo
  h2 : lo ≤ pt
  h3 : pt ≤ hi
  h4 : hi ≤ cs.length + 1
def BufR (w : World) (b : Nat) (cs : List Nat) (pt lo hi : Nat) : Prop := ∃ t g, BufI w b t g cs pt lo hi
section
variable {w w' : World} {b t g pt lo hi : Nat} {cs : List Nat}
theorem BufI.lt (h : BufI w b t g cs pt lo hi) : b < w.heap.size := lt_of_cell h.c0
theorem BufI.up (h : BufI w b t g cs pt lo hi) (hb : Below w.heap.size w w') : BufI w' b t g cs pt lo hi :=
  have e := hb.block b h.lt
  ⟨(World.cell?_of_block (w := w) (a := ⟨b, 0, none⟩) e).trans h.c0, (World.cell?_of_block (w := w) (a := ⟨b, 1, none⟩) e).trans h.c1, (World.cell?_of_block (w := w) (a := ⟨b, 2, none⟩) e).trans h.c2, (World.cell?_of_block (w := w) (a := ⟨b, 9, none⟩) e).trans h.c9,
    h.gap.up hb, h.hbt, h.hbg, h.h1, h.h2, h.h3, h.h4⟩
theorem BufR.up (h : BufR w b cs pt lo hi) (hb : Below w.heap.size w w') : BufR w' b cs pt lo hi := by obtain ⟨t, g, h⟩ := h; exact ⟨t, g, h.up hb⟩
theorem BufR.lt (h : BufR w b cs pt lo hi) : b < w.heap.size := by obtain ⟨t, g, h⟩ := h; exact h.lt
theorem BufR.len (h : BufR w b cs pt lo hi) : cs.length ≤ 1000000 ∧ 1 ≤ lo ∧ lo ≤ pt ∧ pt ≤ hi ∧ hi ≤ cs.length + 1 := by obtain ⟨t, g, h⟩ := h; exact ⟨h.gap.len, h.h1, h.h2, h.h3, h.h4⟩
set_option maxHeartbeats 1000000 in
theorem bnone (h : BufR w b cs pt lo hi) : Calls Tryz.prog 71 #[.pointer (some ⟨b, 0, none⟩)] w fun e w' => e = .returned (.bool false) ∧ w = w' := by
  obtain ⟨t, g, h⟩ := h
  have c9 := h.c9
  clear h
  go_enter Tryz.func71, Tryz.ntmps71
  go_wp2_with fail
  go_ret
  exact ⟨rfl, rfl⟩
set_option maxHeartbeats 1000000 in
theorem bsize (h : BufR w b cs pt lo hi) : Calls Tryz.prog 77 #[.pointer (some ⟨b, 0, none⟩)] w fun e w' => e = .returned (.int .i64 cs.length) ∧ Below w.heap.size w w' := by
  have HN := Lib.hid (bnone h)
  obtain ⟨t, g, h⟩ := h
  have HS := Lib.hid (gsize h.gap)
  have c9 := h.c9
  clear h
  go_enter Tryz.func77, Tryz.ntmps77
  go_wp2_with fail
  refine HN.out.mono ?_
  rintro e w' ⟨rfl, rfl⟩
  go_wp2_with fail
  refine HS.out.mono ?_
  rintro e w' ⟨rfl, hb⟩
  go_wp2_with fail
  go_ret
  exact ⟨rfl, hb⟩
set_option maxHeartbeats 1000000 in
theorem bpoint (h : BufR w b cs pt lo hi) : Calls Tryz.prog 39 #[.pointer (some ⟨b, 0, none⟩)] w fun e w' => e = .returned (.int .i64 pt) ∧ w = w' := by
  have HN := Lib.hid (bnone h)
  obtain ⟨t, g, h⟩ := h
  have c0 := h.c0
  clear h
  go_enter Tryz.func39, Tryz.ntmps39
  go_wp2_with fail
  refine HN.out.mono ?_
  rintro e w' ⟨rfl, rfl⟩
  go_wp2_with fail
  go_ret
  exact ⟨rfl, rfl⟩
set_option maxHeartbeats 1000000 in
theorem breach (h : BufR w b cs pt lo hi) : Calls Tryz.prog 112 #[.pointer (some ⟨b, 0, none⟩)] w fun e w' => e = .returned (.tuple #[.int .i64 lo, .int .i64 hi]) ∧ Below w.heap.size w w' := by
  have HN := Lib.hid (bnone h)
  obtain ⟨t, g, h⟩ := h
  have c1 := h.c1
  have c2 := h.c2
  clear h
  go_enter Tryz.func112, Tryz.ntmps112
  go_wp2_with fail
  refine HN.out.mono ?_
  rintro e w' ⟨rfl, rfl⟩
  go_wp2_with fail
  go_region
  go_wp2_with fail
  go_ret2
  exact ⟨rfl, (Below.refl _ w).drew⟩
set_option maxHeartbeats 1000000 in
theorem bchar (h : BufR w b cs pt lo hi) (k : Nat) (h1 : 1 ≤ k) (hk : k ≤ cs.length) : Calls Tryz.prog 62 #[.pointer (some ⟨b, 0, none⟩), .int .i64 k] w fun e w' => e = .returned (.tuple #[.int .i64 (chr cs k : Nat), .bool true]) ∧ Below w.heap.size w w' := by
  have HN := Lib.hid (bnone h)
  obtain ⟨t, g, h⟩ := h
  obtain ⟨q, rfl⟩ : ∃ q, k = q + 1 := ⟨k - 1, by omega⟩
  have HS := Lib.hid (gchar h.gap q (by omega))
  have c9 := h.c9
  generalize ((q + 1 : Nat) : Int) = z at *
  clear h h1 hk
  go_enter Tryz.func62, Tryz.ntmps62
  go_wp2_with fail
  refine HN.out.mono ?_
  rintro e w' ⟨rfl, rfl⟩
  go_wp2_with fail
  refine HS.out.mono ?_
  rintro e w' ⟨rfl, hb⟩
  go_wp2_with fail
  go_ret2
  exact ⟨rfl, hb⟩
set_option maxHeartbeats 1000000 in
theorem bchar_no (h : BufR w b cs pt lo hi) (k : Int) (h1 : k < 1 ∨ (cs.length : Int) < k) : Calls Tryz.prog 62 #[.pointer (some ⟨b, 0, none⟩), .int .i64 k] w fun e w' => e = .returned (.tuple #[.int .i64 0, .bool false]) ∧ Below w.heap.size w w' := by
  have HN := Lib.hid (bnone h)
  obtain ⟨t, g, h⟩ := h
  have HS := Lib.hid (gchar_no h.gap k h1)
  have c9 := h.c9
  clear h h1
  go_enter Tryz.func62, Tryz.ntmps62
  go_wp2_with fail
  refine HN.out.mono ?_
  rintro e w' ⟨rfl, rfl⟩
  go_wp2_with fail
  refine HS.out.mono ?_
  rintro e w' ⟨rfl, hb⟩
  go_wp2_with fail
  go_ret2
  exact ⟨rfl, hb⟩
set_option maxHeartbeats 1000000 in
theorem bfind (h : BufR w b cs pt lo hi) (c l k : Nat) (h1 : 1 ≤ l) (h2 : k ≤ cs.length + 1) (h3 : l ≤ cs.length + 1) : Calls Tryz.prog 149 #[.pointer (some ⟨b, 0, none⟩), .int .i64 c, .int .i64 l, .int .i64 k] w (FindP w cs c l k) := by
  have HN := Lib.hid (bnone h)
  obtain ⟨t, g, h⟩ := h
  have HS := Lib.hid (gfind h.gap c l k h1 h2 h3)
  have c9 := h.c9
  clear h h1 h2 h3
  go_enter Tryz.func149, Tryz.ntmps149
  go_wp2_with fail
  refine HN.out.mono ?_
  rintro e w' ⟨rfl, rfl⟩
  go_wp2_with fail
  refine HS.out.mono ?_
  rintro e w' ⟨hb, h⟩
  have HB := Lib.hid hb
  clear hb
  rcases h with ⟨i, i1, i2, i3, i4, rfl⟩ | ⟨i1, rfl⟩
  · go_wp2_with fail
    go_ret2
    exact ⟨HB.out, .inl ⟨i, i1, i2, i3, i4, rfl⟩⟩
  · go_wp2_with fail
    go_ret2
    exact ⟨HB.out, .inr ⟨i1, rfl⟩⟩
set_option maxHeartbeats 1000000 in
theorem bfindback (h : BufR w b cs pt lo hi) (c l k : Nat) (h1 : 1 ≤ l) (h2 : k ≤ cs.length + 1) (h3 : 1 ≤ k) : Calls Tryz.prog 133 #[.pointer (some ⟨b, 0, none⟩), .int .i64 c, .int .i64 l, .int .i64 k] w (FindBackP w cs c l k) := by
  have HN := Lib.hid (bnone h)
  obtain ⟨t, g, h⟩ := h
  have HS := Lib.hid (gfindback h.gap c l k h1 h2 h3)
  have c9 := h.c9
  clear h h1 h2 h3
  go_enter Tryz.func133, Tryz.ntmps133
  go_wp2_with fail
  refine HN.out.mono ?_
  rintro e w' ⟨rfl, rfl⟩
  go_wp2_with fail
  refine HS.out.mono ?_
  rintro e w' ⟨hb, h⟩
  have HB := Lib.hid hb
  clear hb
  rcases h with ⟨i, i1, i2, i3, i4, rfl⟩ | ⟨i1, rfl⟩
  · go_wp2_with fail
    go_ret2
    exact ⟨HB.out, .inl ⟨i, i1, i2, i3, i4, rfl⟩⟩
  · go_wp2_with fail
    go_ret2
    exact ⟨HB.out, .inr ⟨i1, rfl⟩⟩
end
end Go.Proofs.YtcfdalmllegefaaGreatDoor
/- Package buffer: unless, within, reach; checks laid as closures. -/
namespace Go.Proofs.YtcfdalmllegefaaGreatDoor
open Go.RowKit
set_option linter.unusedVariables false
set_option linter.unusedSimpArgs false
/-- A check that has been made: from w on it hands back its error. -/
structure ChkAt (w : World) (P : Prop) (c : Chk) : Prop where
  en : Enters c.F
  run : P → ∀ w1, Below w.heap.size w w1 → Calls Tryz.prog c.F (c.bd ++ c.cp) w1 fun r w2 => r = .returned (.int .i64 c.e) ∧ Below w1.heap.size w1 w2
section
variable {w w' : World} {P : Prop} {c : Chk}
theorem ChkAt.up (h : ChkAt w P c) (hb : Below w.heap.size w w') : ChkAt w' P c := ⟨h.en, fun p w1 hb1 => h.run p w1 (up2 hb hb1)⟩
theorem al2 (w : World) (x y : Value) (T U : TypeId) : ((w.alloc (.cells #[x] T)).alloc (.cells #[y] U)).cell? ⟨w.heap.size, 0, none⟩ = some x ∧ ((w.alloc (.cells #[x] T)).alloc (.cells #[y] U)).cell? ⟨w.heap.size + 1, 0, none⟩ = some y := by
  have h0 : (w.alloc (.cells #[x] T)).heap.size = w.heap.size + 1 := by simp
  constructor
  · rw [World.cell?_of_block (w := w.alloc (.cells #[x] T)) (a := ⟨w.heap.size, 0, none⟩) ((MapKept.heap_alloc _ _).2 _ (by simp))]
    simp only [World.cell?, (MapKept.heap_alloc w (.cells #[x] T)).1]
    rfl
  · have := (MapKept.heap_alloc (w.alloc (.cells #[x] T)) (.cells #[y] U)).1
    rw [h0] at this
    simp only [World.cell?, this]
    rfl
theorem below2 (w : World) (x y : Obj) : Below w.heap.size w ((w.alloc x).alloc y) := (below1 w x).alloc (by simp) y
set_option maxHeartbeats 1000000 in
theorem unless_ok (e : Int) (F : FuncId) (bd cp : Array Value) (w : World) : Calls Tryz.prog 190 #[.int .i64 e, .func (.func F) bd cp] w fun r w' =>
    r = .returned (.func (.func 260) #[] #[.pointer (some ⟨w.heap.size + 1, 0, none⟩), .pointer (some ⟨w.heap.size, 0, none⟩)]) ∧ Below w.heap.size w w' ∧
    w'.cell? ⟨w.heap.size, 0, none⟩ = some (.int .i64 e) ∧ w'.cell? ⟨w.heap.size + 1, 0, none⟩ = some (.func (.func F) bd cp) := by
  go_enter Tryz.func190, Tryz.ntmps190
  go_wp2_with fail
  go_ret
  exact ⟨rfl, below2 w _ _, (al2 w _ _ _ _).1, (al2 w _ _ _ _).2⟩
set_option maxHeartbeats 1000000 in
theorem unless1_ok {e : Int} {F : FuncId} {bd cp : Array Value} {p : Bool} {be bf : Nat} (hF : Enters F) (he : w.cell? ⟨be, 0, none⟩ = some (.int .i64 e)) (hf : w.cell? ⟨bf, 0, none⟩ = some (.func (.func F) bd cp))
    (hc : Calls Tryz.prog F (bd ++ cp) w fun r w2 => r = .returned (.bool p) ∧ Below w.heap.size w w2) :
    Calls Tryz.prog 260 #[.pointer (some ⟨bf, 0, none⟩), .pointer (some ⟨be, 0, none⟩)] w fun r w2 => r = .returned (.int .i64 (if p then 0 else e)) ∧ Below w.heap.size w w2 := by
  have hin : ∀ (args : Array Value) (w : World), (callFunc F args).run Tryz.prog w = .ok (.enter F args) w := hF
  have HC := Lib.hid hc
  have HE := Lib.hid he
  clear hc hF he
  go_enter Tryz.func260, Tryz.ntmps260
  go_wp2_with fail
  refine HC.out.mono ?_
  rintro r w1 ⟨rfl, hb1⟩
  have he1 : w1.cell? ⟨be, 0, none⟩ = some (.int .i64 e) := (World.cell?_of_block (w := w) (a := ⟨be, 0, none⟩) (hb1.block _ (lt_of_cell HE.out))).trans HE.out
  cases p with
  | true =>
    go_wp2_with fail
    go_ret
    exact ⟨rfl, hb1⟩
  | false =>
    go_wp2_with fail
    go_ret
    exact ⟨rfl, hb1⟩
/-- The check that 'unless' makes. -/
abbrev unlC (be bf : Nat) (e : Int) : Chk := ⟨260, #[], #[.pointer (some ⟨bf, 0, none⟩), .pointer (some ⟨be, 0, none⟩)], e⟩
theorem ChkAt.unless {e : Int} {F : FuncId} {bd cp : Array Value} {p : Bool} {be bf : Nat} (hF : Enters F) (he : w.cell? ⟨be, 0, none⟩ = some (.int .i64 e)) (hf : w.cell? ⟨bf, 0, none⟩ = some (.func (.func F) bd cp))
    (hc : P → ∀ w1, Below w.heap.size w w1 → Calls Tryz.prog F (bd ++ cp) w1 fun r w2 => r = .returned (.bool p) ∧ Below w1.heap.size w1 w2) : ChkAt w P (unlC be bf (if p then 0 else e)) :=
  ⟨enters_mk Tryz.func260 (by kernel_rfl) rfl, fun hp w1 hb => by
    have := unless1_ok (w := w1) (be := be) (bf := bf) hF ((World.cell?_of_block (w := w) (a := ⟨be, 0, none⟩) (hb.block _ (lt_of_cell he))).trans he) ((World.cell?_of_block (w := w) (a := ⟨bf, 0, none⟩) (hb.block _ (lt_of_cell hf))).trans hf) (hc hp w1 hb)
    exact this⟩
/-- A buffer's cells: positions, flags, ticks, parts, the log's flags. -/
structure BS where
  pt : Nat
  lo : Nat
  hi : Nat
  mark : Nat
  marked : Bool
  ro : Bool
  fo : Bool
  tick : Nat
  clean : Nat
  t : Nat
  m : Nat
  p : Nat
  o : Nat
  l : Nat
  logs : Bool
  empty : Bool
  lock : Int
  saved : Value
  tokens : Nat
abbrev pAt (b : Nat) : Value := .pointer (some ⟨b, 0, none⟩)
abbrev bufC (S : BS) : Array Value := #[.int .i64 S.pt, .int .i64 S.lo, .int .i64 S.hi, .int .i64 S.mark, .bool S.marked, .bool S.ro, .bool S.fo, .int .i64 S.tick, .int .i64 S.clean, pAt S.t, pAt S.m, pAt S.p, pAt S.o, pAt S.l, .bool S.logs, .bool S.empty, .int .i64 S.lock, S.saved, .int .i64 S.tokens]
abbrev BufB (w : World) (b : Nat) (S : BS) : Prop := Blk w b 116 (bufC S)
variable {b : Nat} {S : BS}
set_option maxHeartbeats 1000000 in
theorem reach_ok (h : BufB w b S) (x y : Int) : Calls Tryz.prog 192 #[pAt b, .int .i64 x, .int .i64 y] w fun r w2 => r = .returned (.bool (decide ((S.lo : Int) ≤ x) && decide (x ≤ y) && decide (y ≤ (S.hi : Int)))) ∧ w = w2 := by
  obtain ⟨lo, hlo⟩ : ∃ lo : Int, (S.lo : Int) = lo := ⟨_, rfl⟩
  obtain ⟨hi, hhi⟩ : ∃ hi : Int, (S.hi : Int) = hi := ⟨_, rfl⟩
  have c1 : w.cell? ⟨b, 1, none⟩ = some (.int .i64 (S.lo : Int)) := h.cell (j := 1) rfl
  have c2 : w.cell? ⟨b, 2, none⟩ = some (.int .i64 (S.hi : Int)) := h.cell (j := 2) rfl
  rw [hlo] at c1 ⊢
  rw [hhi] at c2 ⊢
  clear h hlo hhi
  cases d1 : decide (lo ≤ x) <;> cases d2 : decide (x ≤ y) <;> cases d3 : decide (y ≤ hi)
  all_goals
    go_enter Tryz.func192, Tryz.ntmps192
    go_wp2_with fail
    go_ret
    exact ⟨rfl, rfl⟩
end
end Go.Proofs.YtcfdalmllegefaaGreatDoor
/- A fresh text: move, grow. -/
namespace Go.Proofs.YtcfdalmllegefaaGreatDoor
open Go.RowKit
set_option linter.unusedVariables false
set_option linter.unusedSimpArgs false
/-- The cells of a text's block. -/
abbrev txtC (g L cap st en : Nat) (f : Value) : Array Value := #[.slice (some ⟨g, 0, none⟩) L cap, .int .i64 st, .int .i64 en, f]
section
variable {w w' : World} {t g : Nat}
set_option maxHeartbeats 1000000 in
theorem gmove0 (f : Value) (h : Blk w t 192 (txtC g 0 0 0 0 f)) : Calls Tryz.prog 251 #[.pointer (some ⟨t, 0, none⟩), .int .i64 0] w fun e w' => e = .returned (.tuple #[]) ∧ Only (fun k => k = t) w w' ∧ Blk w' t 192 (txtC g 0 0 0 0 f) := by
  have c0 := h.cell (j := 0) rfl
  have c1 := h.cell (j := 1) rfl
  have c2 := h.cell (j := 2) rfl
  have f1 := h.fz 1
  have f2 := h.fz 2
  have cp := fun w ty => run_copy_none (P := Tryz.prog) w 190 190 ty 21 (some ⟨g, 0, none⟩) (some ⟨g, 0, none⟩) 0 0 0 0 Tryz.underlying190 (by kernel_rfl) rfl
  have H := Lib.hid h
  clear h
  go_enter Tryz.func251, Tryz.ntmps251
  go_wp2_with fail
  go_region
  go_wp2_with fail
  go_region
  go_wp2_with fail
  go_end0
  refine ⟨rfl, ((((Only.refl (fun k => k = t) w).setCell (p := ⟨t, 1, none⟩) rfl _).setCell (p := ⟨t, 2, none⟩) rfl _).drew).drew, ?_⟩
  exact ((H.out.set (j := 1) (by simp) (.int .i64 0)).set (j := 2) (by simp) (.int .i64 0))
set_option maxRecDepth 100000 in
set_option maxHeartbeats 1000000 in
theorem ggrow0 (f : Value) (n : Nat) (hn : n ≤ 100000) (h : Blk w t 192 (txtC g 0 0 0 0 f)) (h1 : 1 ≤ n) : Calls Tryz.prog 252 #[.pointer (some ⟨t, 0, none⟩), .int .i64 n] w fun e w' => e = .returned (.tuple #[]) ∧ Only (fun k => k = t) w w' ∧
    Blk w' t 192 (txtC w.heap.size (n + 16) (n + 16) 0 (n + 16) f) ∧ w'.heap.size = w.heap.size + 1 ∧ Blk w' w.heap.size 21 (Array.replicate (n + 16) (.int .i32 0)) := by
  have c0 := h.cell (j := 0) rfl
  have c1 := h.cell (j := 1) rfl
  have c2 := h.cell (j := 2) rfl
  have f0 := h.fz 0
  have f2 := h.fz 2
  have ht := h.lt
  have d1 : decide ((n : Int) ≤ 0) = false := decide_eq_false (by omega)
  have s1 : IntKind.i64.wrap ((n : Int) - 0) = (n : Int) := by rw [IntWalk.i64_in _ (by omega)]; omega
  have s2 : IntKind.i64.wrap ((n : Int) + 0) = (n : Int) := by rw [IntWalk.i64_in _ (by omega)]; omega
  have hmk : ∀ w : World, (Instr.makeSlice 190 (.int .i64 ((n : Int) + 16)) (.int .i64 ((n : Int) + 16))).run Tryz.prog w = .ok (.slice (some ⟨w.heap.size, 0, none⟩) (n + 16) (n + 16)) (w.alloc (.cells (Array.replicate (n + 16) (.int .i32 0)) 21)) := fun w => by
    obtain ⟨i, hi, hsz, hby, hz⟩ : ∃ i, Tryz.prog.info? 21 = some i ∧ i.size = 1 ∧ i.bytes = 4 ∧ i.zero = some (.int .i32 0) := ⟨(Tryz.prog.info? 21).get (by kernel_rfl), (Option.some_get _).symm, by kernel_rfl, by kernel_rfl, by kernel_rfl⟩
    have hr := run_makeSlice (P := Tryz.prog) (w := w) 190 21 i (.int .i32 0) Tryz.underlying190 hi hz .i64 .i64 ((n : Int) + 16) ((n : Int) + 16) (by omega) (by omega) (by rw [hsz]; omega) (by rw [hby]; omega) (by omega)
    rw [hr, hsz]
    have e1 : ((n : Int) + 16).toNat = n + 16 := by omega
    have e2 : madeCells (Value.int .i32 0).cells ((n + 16) * 1) = Array.replicate (n + 16) (.int .i32 0) := by
      rw [Nat.mul_one]
      apply Array.ext
      · simp [madeCells]
      · intro j h1 h2
        simp [madeCells, Value.cells, Nat.mod_one]
    rw [e1, e2]
  generalize hZ : Array.replicate (n + 16) (Value.int .i32 0) = Z at *
  have cp := fun w ty d dLen dCap => run_copy_none (P := Tryz.prog) w 190 190 ty 21 d (some ⟨g, 0, none⟩) dLen dCap 0 0 Tryz.underlying190 (by kernel_rfl) (Nat.zero_min dLen)
  have H := Lib.hid h
  clear h
  go_enter Tryz.func252, Tryz.ntmps252
  go_wp2_with fail
  go_region
  go_wp2_with fail
  go_region
  go_wp2_with fail
  go_region
  go_wp2_with fail
  go_end0
  have hb2 := (H.out.set (j := 0) (by simp) (.slice (some ⟨w.heap.size, 0, none⟩) (n + 16) (n + 16))).set (j := 2) (by simp) (.int .i64 ((n : Int) + 16))
  have ho := ((Only.refl (fun k => k = t) w).setCell (p := ⟨t, 0, none⟩) rfl (.slice (some ⟨w.heap.size, 0, none⟩) (n + 16) (n + 16))).setCell (p := ⟨t, 2, none⟩) rfl (.int .i64 ((n : Int) + 16))
  have hs2 : ((w.setCell ⟨t, 0, none⟩ (.slice (some ⟨w.heap.size, 0, none⟩) (n + 16) (n + 16))).setCell ⟨t, 2, none⟩ (.int .i64 ((n : Int) + 16))).heap.size = w.heap.size := by simp
  generalize (w.setCell ⟨t, 0, none⟩ (.slice (some ⟨w.heap.size, 0, none⟩) (n + 16) (n + 16))).setCell ⟨t, 2, none⟩ (.int .i64 ((n : Int) + 16)) = W at *
  refine ⟨rfl, (((ho.alloc _).drew).drew).drew, ?_, ?_, ?_⟩
  · exact (hb2.up (below1 W (.cells Z 21)) : Blk _ _ _ _)
  · show (W.alloc (.cells Z 21)).heap.size = _
    simp [hs2]
  · have := Blk.made W 21 Z
    rw [hs2] at this
    exact this
end
end Go.Proofs.YtcfdalmllegefaaGreatDoor
/- Package copyistref01: tail, Is, point, List, Valid, Len. -/
namespace Go.Proofs.YtcfdalmllegefaaGreatDoor
open Go.RowKit
set_option linter.unusedVariables false
set_option linter.unusedSimpArgs false

theorem bAt_get (s : ByteArray) (i : Nat) (h : i < s.size) : bAt s.data.toList i = s[i].toNat := by
  unfold bAt
  rw [List.getD_eq_getElem?_getD, List.getElem?_eq_getElem (by simpa using h)]
  rfl
set_option maxHeartbeats 400000 in
theorem tail_yes (s : ByteArray) (i : Nat) (w : World) (hs : s.size ≤ 1000000000) (hi : i < 10) (h : tlN s.size i (bAt s.data.toList i)) : Calls Tryz.prog 240 #[.string s, .int .i64 i] w fun e w' => e = .returned (.bool true) ∧ w = w' := by
  obtain ⟨h1, h2, h3⟩ := h
  rw [bAt_get s i h1] at h2 h3
  go_enter Tryz.func240, Tryz.ntmps240
  go_wp2
  go_ret
  exact ⟨ret_bool (by first | (simp only [decide_eq_true_eq, decide_eq_false_iff_not]; omega) | rfl), rfl⟩
set_option maxHeartbeats 400000 in
theorem tail_no (s : ByteArray) (i : Nat) (w : World) (hs : s.size ≤ 1000000000) (hi : i < 10) (h : ¬ tlN s.size i (bAt s.data.toList i)) : Calls Tryz.prog 240 #[.string s, .int .i64 i] w fun e w' => e = .returned (.bool false) ∧ w = w' := by
  by_cases h1 : i < s.size
  · unfold tlN at h
    rw [bAt_get s i h1] at h
    by_cases h2 : s[i].toNat < 128
    · clear h
      go_enter Tryz.func240, Tryz.ntmps240
      go_wp2
      go_ret
      exact ⟨ret_bool (by first | (simp only [decide_eq_true_eq, decide_eq_false_iff_not]; omega) | rfl), rfl⟩
    · have h3 : 192 ≤ s[i].toNat := by omega
      have h4 : 128 ≤ s[i].toNat := by omega
      clear h h2
      go_enter Tryz.func240, Tryz.ntmps240
      go_wp2
      go_ret
      exact ⟨ret_bool (by first | (simp only [decide_eq_true_eq, decide_eq_false_iff_not]; omega) | rfl), rfl⟩
  · have h2 : s.size ≤ i := by omega
    clear h h1
    go_enter Tryz.func240, Tryz.ntmps240
    go_wp2
    go_ret
    exact ⟨ret_bool (by first | (simp only [decide_eq_true_eq, decide_eq_false_iff_not]; omega) | rfl), rfl⟩
theorem isI (c : Nat) (h : isN c) : (c : Int) ≤ 1114111 ∧ ((c : Int) < 55296 ∨ (57343 : Int) < c) := by unfold isN at h; omega
theorem notI (c : Nat) (h : ¬ isN c) : (1114111 : Int) < c ∨ ((c : Int) ≤ 1114111 ∧ (55296 : Int) ≤ c ∧ (c : Int) ≤ 57343) := by unfold isN at h; omega
def IsI (c : Int) : Bool := decide (c ≤ 1114111) && (decide (c < 55296) || decide (57343 < c))
theorem is_yes1 (c : Int) (w : World) (h0 : 0 ≤ c) (h1 : c < 55296) : Calls Tryz.prog 172 #[.int .i64 c] w fun e w' => e = .returned (.bool true) ∧ w = w' := by
  have h3 : decide (c ≤ 1114111) = true := decide_eq_true (by omega)
  have h4 : decide (c < 55296) = true := decide_eq_true h1
  go_enter Tryz.func172, Tryz.ntmps172
  go_wp2
  go_ret
  exact ⟨rfl, rfl⟩
theorem is_yes2 (c : Int) (w : World) (h0 : 0 ≤ c) (h1 : c ≤ 1114111) (h2 : 57343 < c) : Calls Tryz.prog 172 #[.int .i64 c] w fun e w' => e = .returned (.bool true) ∧ w = w' := by
  have h3 : decide (c ≤ 1114111) = true := decide_eq_true h1
  have h4 : decide (c < 55296) = false := decide_eq_false (by omega)
  have h5 : decide (57343 < c) = true := decide_eq_true h2
  clear h1 h2
  go_enter Tryz.func172, Tryz.ntmps172
  go_wp2
  go_ret
  exact ⟨rfl, rfl⟩
theorem is_no1 (c : Int) (w : World) (h0 : 0 ≤ c) (h1 : 1114111 < c) : Calls Tryz.prog 172 #[.int .i64 c] w fun e w' => e = .returned (.bool false) ∧ w = w' := by
  have h3 : decide (c ≤ 1114111) = false := decide_eq_false (by omega)
  clear h1
  go_enter Tryz.func172, Tryz.ntmps172
  go_wp2
  go_ret
  exact ⟨rfl, rfl⟩
theorem is_no2 (c : Int) (w : World) (h0 : 55296 ≤ c) (h1 : c ≤ 57343) : Calls Tryz.prog 172 #[.int .i64 c] w fun e w' => e = .returned (.bool false) ∧ w = w' := by
  have h2 : 0 ≤ c := by omega
  have h3 : decide (c ≤ 1114111) = true := decide_eq_true (by omega)
  have h4 : decide (c < 55296) = false := decide_eq_false (by omega)
  have h5 : decide (57343 < c) = false := decide_eq_false (by omega)
  clear h0 h1
  go_enter Tryz.func172, Tryz.ntmps172
  go_wp2
  go_ret
  exact ⟨rfl, rfl⟩
theorem is_yes (c : Nat) (w : World) (h : isN c) : Calls Tryz.prog 172 #[.int .i64 c] w fun e w' => e = .returned (.bool true) ∧ w = w' := by
  obtain ⟨h1, h2 | h2⟩ := isI c h
  · exact is_yes1 c w (by omega) h2
  · exact is_yes2 c w (by omega) h1 h2
theorem is_no (c : Nat) (w : World) (h : ¬ isN c) : Calls Tryz.prog 172 #[.int .i64 c] w fun e w' => e = .returned (.bool false) ∧ w = w' := by
  rcases notI c h with h1 | ⟨_, h2, h3⟩
  · exact is_no1 c w (by omega) h1
  · exact is_no2 c w h2 h3
end Go.Proofs.YtcfdalmllegefaaGreatDoor
