import Derived.Test.YtnbccoelbfgmgaaGreatDoorZ00
import Derived.Test.YtnbccoelbfgmgaaGreatDoorZ01
import Derived.IntWalk
import Derived.BigRegion
import Derived.RegionTactic
import Derived.ChangeAlike
import Derived.Test.YtnbccoelbfgmgaaGreatDoorProg
import Derived.Lib.ValidLaws
import Derived.Laws.Tables
/- A region that draws its order: pure operations first; where two others come up at once, both ways. -/
namespace Go.Proofs.YtnbccoelbfgmgaaGreatDoor
open Go.RowKit
set_option linter.unusedVariables false
/-- How a region is walked. -/
inductive PlanT where
  | done (last : List Nat)
  | one (seg : List Nat) (i : Nat) (r : PlanT)
  | two (seg : List Nat) (i : Nat) (r : PlanT) (j : Nat) (s : PlanT)
section
variable {P : Program} {md : Region.Mode} {S : World → Prop} {Q : Exit → Act → World → Prop}
def wpMixT (P : Program) (l : List Oper) (S : World → Prop) (Q : Exit → Act → World → Prop) (T : Act → World → Prop) : PlanT → Act → World → Prop
  | .done last, a, w => wpQuiet P l.toArray S (fun a' => T a' w) (pk l last) a
  | .one seg i r, a, w => wpQuiet P l.toArray S (fun a' => wpList P l.toArray (thenQ Q fun a'' w'' => S w'' ∧ wpMixT P l S Q T r a'' w'') (pk l [i]) a' w) (pk l seg) a
  | .two seg i r j s, a, w => wpQuiet P l.toArray S (fun a' => wpList P l.toArray (thenQ Q fun a'' w'' => S w'' ∧ wpMixT P l S Q T r a'' w'') (pk l [i]) a' w ∧ wpList P l.toArray (thenQ Q fun a'' w'' => S w'' ∧ wpMixT P l S Q T s a'' w'') (pk l [j]) a' w) (pk l seg) a
def cntT : PlanT → Nat
  | .done last => last.length
  | .one seg _ r => seg.length + 1 + cntT r
  | .two seg _ r _ _ => seg.length + 1 + cntT r
def mixTB (md : Region.Mode) (l : List Oper) (n : Nat) : PlanT → Array Bool → Bool
  | .done last, listed => match segB md l n last listed with
    | none => false
    | some l' => Region.seqB md l.toArray (l.length - n) n l'
  | .one seg i r, listed => match segB md l n seg listed with
    | none => false
    | some l' => decide (Region.ready md l.toArray l' = [i]) && decide (i < n) && mixTB md l n r (l'.setIfInBounds i true)
  | .two seg i r j s, listed => match segB md l n seg listed with
    | none => false
    | some l' => decide (Region.ready md l.toArray l' = [i, j]) && decide (i < n) && decide (j < n) && decide (cntT r = cntT s) && mixTB md l n r (l'.setIfInBounds i true) && mixTB md l n s (l'.setIfInBounds j true)
def mixTAll (l : List Oper) (n : Nat) (plan : PlanT) : Bool :=
  Region.noSelect l.toArray && (decide (n = l.length) || (decide (n < l.length) && Region.sinkB .any l.toArray n && Region.chainB .any l.toArray n)) && decide (cntT plan = n) && mixTB .any l n plan (Array.replicate l.length false)

theorem mixT_headM {l : List Oper} {n : Nat} (hsel : Region.noSelect l.toArray = true) (hQ : ∀ c d v a w, Q (.panic c) (Act.put a d v) w → Q (.panic c) a w)
    (htw : ∀ listed, HeadInv md l.toArray n listed → ∀ i, i < n → listed.getD i true = false → ∀ t, n ≤ t → t ∉ Region.ready md l.toArray listed) :
    ∀ (plan : PlanT) (listed : Array Bool) (a : Act) (w : World), HeadInv md l.toArray n listed → mixTB md l n plan listed = true → S w →
      wpMixT P l S Q (fun a w => wpList P l.toArray Q (l.drop n) a w) plan a w →
      headM P md l.toArray S Q n (fun listed a w => Region.seqB md l.toArray (l.length - n) n listed = true ∧ wpList P l.toArray Q (l.drop n) a w) (cntT plan) listed a w
  | .done last, listed, a, w, inv, hB, hS, h => by
    unfold mixTB at hB
    split at hB
    · cases hB
    · rename_i l' hl'
      have := seg_headM (P := P) (S := S) (Q := Q) (L := fun listed a w => Region.seqB md l.toArray (l.length - n) n listed = true ∧ wpList P l.toArray Q (l.drop n) a w) hsel hQ htw (fun listed a w h => seqB_ready h.1) last listed l' 0 _ a w inv hl' hS h (fun _ a' h' => ⟨hB, h'⟩)
      simpa [cntT] using this
  | .one seg i r, listed, a, w, inv, hB, hS, h => by
    unfold mixTB at hB
    split at hB
    · cases hB
    · rename_i l' hl'
      simp only [Bool.and_eq_true, decide_eq_true_eq] at hB
      obtain ⟨⟨hr, hin⟩, hB⟩ := hB
      have := seg_headM (P := P) (S := S) (Q := Q) (L := fun listed a w => Region.seqB md l.toArray (l.length - n) n listed = true ∧ wpList P l.toArray Q (l.drop n) a w) hsel hQ htw (fun listed a w h => seqB_ready h.1) seg listed l' (1 + cntT r) _ a w inv hl' hS h (fun inv' a' h' => by
        rw [Nat.add_comm 1]
        refine ⟨by rw [hr]; simp, fun j hj => ?_⟩
        have hj0 := hj
        rw [hr] at hj
        have hji : j = i := by simpa using hj
        subst hji
        refine ⟨hin, ?_⟩
        obtain ⟨_, oj, hoj, _⟩ := mem_ready.1 hj0
        have e : pk l [j] = [oj] := by
          have : l[j]? = some oj := by simpa using hoj
          rw [pk_cons, pushAt_eq _ _ _ this]; rfl
        rw [e] at h'
        exact wpOp_mono (fun a'' w'' h3 => ⟨h3.1, mixT_headM hsel hQ htw r _ a'' w'' (inv'.set hj0 hin) hB h3.1 h3.2⟩) (wpOp_of_list hoj h'))
      simp only [cntT]
      rwa [show seg.length + 1 + cntT r = seg.length + (1 + cntT r) by omega]
  | .two seg i r j s, listed, a, w, inv, hB, hS, h => by
    unfold mixTB at hB
    split at hB
    · cases hB
    · rename_i l' hl'
      simp only [Bool.and_eq_true, decide_eq_true_eq] at hB
      obtain ⟨⟨⟨⟨⟨hr, hin⟩, hjn⟩, hc⟩, hB⟩, hB2⟩ := hB
      have := seg_headM (P := P) (S := S) (Q := Q) (L := fun listed a w => Region.seqB md l.toArray (l.length - n) n listed = true ∧ wpList P l.toArray Q (l.drop n) a w) hsel hQ htw (fun listed a w h => seqB_ready h.1) seg listed l' (1 + cntT r) _ a w inv hl' hS h (fun inv' a' h' => by
        rw [Nat.add_comm 1]
        refine ⟨by rw [hr]; simp, fun t ht => ?_⟩
        have ht0 := ht
        rw [hr] at ht
        obtain ⟨_, ot, hot, _⟩ := mem_ready.1 ht0
        have e : pk l [t] = [ot] := by
          have : l[t]? = some ot := by simpa using hot
          rw [pk_cons, pushAt_eq _ _ _ this]; rfl
        have hti : t = i ∨ t = j := by simpa using ht
        rcases hti with rfl | rfl
        · refine ⟨hin, ?_⟩
          have h1 := h'.1
          rw [e] at h1
          exact wpOp_mono (fun a'' w'' h3 => ⟨h3.1, mixT_headM hsel hQ htw r _ a'' w'' (inv'.set ht0 hin) hB h3.1 h3.2⟩) (wpOp_of_list hot h1)
        · refine ⟨hjn, ?_⟩
          have h1 := h'.2
          rw [e] at h1
          rw [hc]
          exact wpOp_mono (fun a'' w'' h3 => ⟨h3.1, mixT_headM hsel hQ htw s _ a'' w'' (inv'.set ht0 hjn) hB2 h3.1 h3.2⟩) (wpOp_of_list hot h1))
      simp only [cntT]
      rwa [show seg.length + 1 + cntT r = seg.length + (1 + cntT r) by omega]
end
theorem wp_region_mixT {P : Program} {id : Nat} {Q : Exit → Act → World → Prop} {a : Act} {w : World} {l : List Oper} (N n : Nat) (plan : PlanT) (hm : P.follows .mixedOrders = true) (hQ : ∀ c d v a w, Q (.panic c) (Act.put a d v) w → Q (.panic c) a w)
    (hB : mixTAll l n plan = true)
    (h : wpMixT P l (fun w' => ∃ x : UpW N w, w' = x.w) Q (fun a w1 => wpList P l.toArray Q (l.drop n) a w1) plan a w.drew) : (Code.region id l.toArray true).wp P Q a w := by
  simp only [mixTAll, Bool.and_eq_true, Bool.or_eq_true, decide_eq_true_eq] at hB
  obtain ⟨⟨⟨hsel, hn⟩, hcnt⟩, hmix⟩ := hB
  have hnl : n ≤ l.length := by rcases hn with h | h <;> omega
  have inv0 : HeadInv .any l.toArray n (Array.replicate l.length false) :=
    ⟨by simp, fun j oj _ hl => (by rw [getD_replicate_false] at hl; cases hl), fun t _ ht => getD_in (by simpa using ht) (getD_replicate_false _ _)⟩
  have htw : ∀ listed, HeadInv .any l.toArray n listed → ∀ i, i < n → listed.getD i true = false → ∀ t, n ≤ t → t ∉ Region.ready .any l.toArray listed := fun listed inv i hi hun t ht hr => by
    rcases hn with hn | ⟨⟨hn, hs⟩, hc⟩
    · obtain ⟨_, ot, hot, _⟩ := mem_ready.1 hr
      have := (Array.getElem?_eq_some_iff.1 hot).1
      simp at this
      omega
    · exact tail_waits hs hc (by simpa using hn) inv _ i rfl hi hun t ht hr
  have H := mixT_headM (md := .any) hsel hQ htw plan _ a w.drew inv0 hmix ⟨⟨w.drew, (Below.refl N w).drew⟩, rfl⟩ h
  refine wp_region_any hm ?_
  have key := any_of_headM (Q := Q) (g := l.length - n) (fun listed a' w' hL => by
    have := wpAny_of_seq (md := .any) (Q' := Q) (l.drop n) n listed a' w' (fun j => by simp [List.getElem?_drop]) (by rw [List.length_drop]; exact hL.1) hL.2
    rwa [List.length_drop] at this) _ _ _ _ H
  rw [hcnt, show n + (l.length - n) = l.toArray.size by simp; omega] at key
  simpa using key
/-- A world in which nothing old has turned but blocks in T. -/
structure OnW (T : Nat → Prop) (w0 : World) where
  w : World
  on : Only T w0 w
instance OnW.some (T : Nat → Prop) (w0 : World) : Nonempty (OnW T w0) := ⟨⟨w0, Only.refl T w0⟩⟩
/-- The same, for a region whose operations may turn blocks in T. -/
theorem wp_region_mixO {P : Program} {id : Nat} {Q : Exit → Act → World → Prop} {a : Act} {w : World} {l : List Oper} (T : Nat → Prop) (n : Nat) (plan : PlanT) (hm : P.follows .mixedOrders = true) (hQ : ∀ c d v a w, Q (.panic c) (Act.put a d v) w → Q (.panic c) a w)
    (hB : mixTAll l n plan = true)
    (h : wpMixT P l (fun w' => ∃ x : OnW T w, w' = x.w) Q (fun a w1 => wpList P l.toArray Q (l.drop n) a w1) plan a w.drew) : (Code.region id l.toArray true).wp P Q a w := by
  simp only [mixTAll, Bool.and_eq_true, Bool.or_eq_true, decide_eq_true_eq] at hB
  obtain ⟨⟨⟨hsel, hn⟩, hcnt⟩, hmix⟩ := hB
  have hnl : n ≤ l.length := by rcases hn with h | h <;> omega
  have inv0 : HeadInv .any l.toArray n (Array.replicate l.length false) :=
    ⟨by simp, fun j oj _ hl => (by rw [getD_replicate_false] at hl; cases hl), fun t _ ht => getD_in (by simpa using ht) (getD_replicate_false _ _)⟩
  have htw : ∀ listed, HeadInv .any l.toArray n listed → ∀ i, i < n → listed.getD i true = false → ∀ t, n ≤ t → t ∉ Region.ready .any l.toArray listed := fun listed inv i hi hun t ht hr => by
    rcases hn with hn | ⟨⟨hn, hs⟩, hc⟩
    · obtain ⟨_, ot, hot, _⟩ := mem_ready.1 hr
      have := (Array.getElem?_eq_some_iff.1 hot).1
      simp at this
      omega
    · exact tail_waits hs hc (by simpa using hn) inv _ i rfl hi hun t ht hr
  have H := mixT_headM (md := .any) hsel hQ htw plan _ a w.drew inv0 hmix ⟨⟨w.drew, (Only.refl T w).drew⟩, rfl⟩ h
  refine wp_region_any hm ?_
  have key := any_of_headM (Q := Q) (g := l.length - n) (fun listed a' w' hL => by
    have := wpAny_of_seq (md := .any) (Q' := Q) (l.drop n) n listed a' w' (fun j => by simp [List.getElem?_drop]) (by rw [List.length_drop]; exact hL.1) hL.2
    rwa [List.length_drop] at this) _ _ _ _ H
  rw [hcnt, show n + (l.length - n) = l.toArray.size by simp; omega] at key
  simpa using key
end Go.Proofs.YtnbccoelbfgmgaaGreatDoor
/- sort.Search with a closure; package runes: Is, in, Width, Word. -/
namespace Go.Proofs.YtnbccoelbfgmgaaGreatDoor
open Go.RowKit
set_option linter.unusedVariables false
set_option linter.unusedSimpArgs false
/-- A function that is entered when it is called. -/
def Enters (F : FuncId) : Prop := ∀ (args : Array Value) (w : World), (callFunc F args).run Tryz.prog w = .ok (.enter F args) w
theorem enters_mk {F : FuncId} {fn : Func} {c : Code} (hf : Tryz.prog.funcs[F]? = some fn) (hname : (fn.name == "runtime.NumGoroutine") = false) (hb : fn.body = some c) : Enters F := fun args w => by
  have h1 : fn.name ≠ "runtime.NumGoroutine" := by simpa using hname
  simp [callFunc, hf, h1, hb]
/-- What sort.Search hands back: the first place at which p holds. -/
def SearchP (w : World) (p : Nat → Bool) (n : Nat) (e : Ending) (w' : World) : Prop := Below w.heap.size w w' ∧ ∃ i, i ≤ n ∧ (∀ k, k < i → p k = false) ∧ (i < n → p i = true) ∧ e = .returned (.int .i64 i)
def int2 : Value → Value → Nat
  | .int _ a, .int _ b => (b - a).toNat
  | _, _ => 0
theorem half_int (a b : Nat) (h : a + b ≤ 2000000) : (IntKind.u64.wrap ((a : Int) + (b : Int))) = ((a + b : Nat) : Int) := by
  have e : ((a : Int) + (b : Int)) = ((a + b : Nat) : Int) := by omega
  rw [e]
  simp only [IntKind.wrap, IntKind.bits, IntKind.signed]
  first | omega | (simp; omega)
set_option maxRecDepth 100000 in
set_option maxHeartbeats 2000000 in
theorem search_any {F : FuncId} {caps : Array Value} {p : Nat → Bool} {w : World} (hF : Enters F) (n : Nat) (hn : n ≤ 1000000) (hmono : ∀ a b, a ≤ b → b < n → p a = true → p b = true)
    (hcl : ∀ k w1, k < n → Below w.heap.size w w1 → Calls Tryz.prog F (#[.int .i64 k] ++ caps) w1 fun e w2 => e = .returned (.bool (p k)) ∧ Below w1.heap.size w1 w2) :
    Calls Tryz.prog 252 #[.int .i64 n, .func (.func F) #[] caps] w (SearchP w p n) := by
  have HC := Lib.hid hcl
  have HM := Lib.hid hmono
  have hin : ∀ (args : Array Value) (w : World), (callFunc F args).run Tryz.prog w = .ok (.enter F args) w := hF
  clear hcl hmono hF
  go_enter Tryz.func252, Tryz.ntmps252
  go_wp2_with fail
  go_loopw [5, 6] (fun va vb wr => ∃ i j : Nat, i ≤ j ∧ j ≤ n ∧ va = .int .i64 i ∧ vb = .int .i64 j ∧ (∀ k, k < i → p k = false) ∧ (∀ k, j ≤ k → k < n → p k = true) ∧ Below w.heap.size w wr) (fun va vb _ => int2 va vb)
  case atStart => exact ⟨0, n, Nat.zero_le _, Nat.le_refl _, rfl, rfl, fun k h => by omega, fun k h h2 => by omega, Below.refl _ w⟩
  case round =>
    obtain ⟨i, j, hij, hjn, rfl, rfl, hlo, hhi, hbel⟩ := hrel
    have HLO := Lib.hid hlo
    have HHI := Lib.hid hhi
    have HB := Lib.hid hbel
    clear hlo hhi hbel
    by_cases hlt : i < j
    · have d1 : decide ((i : Int) < j) = true := decide_eq_true (by omega)
      have s1 : IntKind.i64.wrap ((i : Int) + j) = (i : Int) + j := IntWalk.i64_in _ (by omega)
      have s2 := half_int i j (by omega)
      obtain ⟨h, hh⟩ : ∃ h, h = (i + j) / 2 := ⟨_, rfl⟩
      have HCH := Lib.hid (HC.out h wr (by omega) HB.out)
      have HHH := Lib.hid hh
      have b1 : i ≤ h := by omega
      have b2 : h < j := by omega
      have s3 : IntKind.i64.wrap ((h : Int) + 1) = ((h + 1 : Nat) : Int) := by rw [IntWalk.i64_in _ (by omega)]; omega
      have e1 : ((i : Int) + (j : Int)) / 2 = (h : Int) := by omega
      clear hh
      cases hp : p h with
      | true =>
        have HP := Lib.hid hp
        rw [hp] at HCH
        clear hp
        go_wp2_with fail
        refine HCH.out.mono ?_
        rintro e w1 ⟨rfl, hb1⟩
        go_wp2_with fail
        go_roundw
        case rel => exact ⟨i, h, b1, by omega, rfl, rfl, HLO.out, fun k hk hk2 => HM.out h k hk hk2 HP.out, up2 HB.out hb1⟩
        case measure => simp [int2]; omega
      | false =>
        have HP := Lib.hid hp
        rw [hp] at HCH
        clear hp
        go_wp2_with fail
        refine HCH.out.mono ?_
        rintro e w1 ⟨rfl, hb1⟩
        go_wp2_with fail
        go_roundw
        case rel =>
          refine ⟨h + 1, j, by omega, hjn, by first | rfl | go_num, rfl, fun k hk => ?_, HHI.out, up2 HB.out hb1⟩
          cases hk2 : p k with
          | false => rfl
          | true => have := HM.out k h (by omega) (by omega) hk2; rw [HP.out] at this; cases this
        case measure => simp [int2]; omega
    · have d1 : decide ((i : Int) < j) = false := decide_eq_false (by omega)
      have hij' : i = j := by omega
      go_wp2_with fail
      go_ret
      exact ⟨HB.out, i, by omega, HLO.out, fun hi => HHI.out i (by omega) hi, rfl⟩

/-- A character lies in one of the spans. -/
def inS (c : Int) (L : List (Int × Int)) : Bool := match L.find? (fun x => decide (c ≤ x.2)) with | some x => decide (x.1 ≤ c) | none => false
abbrev encSp (x : Int × Int) : List Value := [.int .i64 x.1, .int .i64 x.2]
theorem eltSp : Elt encSp 271 267 2 16 (.agg #[.int .i64 0, .int .i64 0]) := ⟨Tryz.underlying271, by kernel_rfl, rfl, by omega, fun _ => rfl, fun x u hu => by simp at hu; rcases hu with rfl | rfl <;> rfl⟩
section
variable {w w' : World} {A : Option Addr} {c : Int} {L : List (Int × Int)}
def spP (c : Int) (L : List (Int × Int)) (k : Nat) : Bool := match L[k]? with | some x => decide (c ≤ x.2) | none => false
set_option maxHeartbeats 1000000 in
theorem in_clos {bs bc : Nat} (hc : w.cell? ⟨bc, 0, none⟩ = some (.int .i64 c)) (cp : Nat) (hs : w.cell? ⟨bs, 0, none⟩ = some (.slice A L.length cp)) (hL : RSl encSp w A L) (k : Nat) (hk : k < L.length) (hl : L.length ≤ 1000) :
    Calls Tryz.prog 253 #[.int .i64 k, .pointer (some ⟨bs, 0, none⟩), .pointer (some ⟨bc, 0, none⟩)] w fun e w' => e = .returned (.bool (spP c L k)) ∧ Below w.heap.size w w' := by
  obtain ⟨x, hx⟩ : ∃ x, L[k]? = some x := ⟨_, List.getElem?_eq_getElem hk⟩
  unfold spP
  rw [hx]
  obtain ⟨g, o, rfl, hg, hat⟩ := hL.at_ eltSp hx
  have k1 := hat 1 _ rfl
  rw [← Nat.add_assoc] at k1
  have hk' : (k : Int) < L.length := by omega
  clear hat hL hx hk
  simp only []
  cases hd : decide (c ≤ x.2) with
  | true =>
    go_enter Tryz.func253, Tryz.ntmps253
    go_wp2_with fail
    go_region
    go_wp2_with fail
    go_ret
    exact ⟨rfl, (Below.refl _ w).drew⟩
  | false =>
    go_enter Tryz.func253, Tryz.ntmps253
    go_wp2_with fail
    go_region
    go_wp2_with fail
    go_ret
    exact ⟨rfl, (Below.refl _ w).drew⟩
theorem spP_mono (hs : L.Pairwise (fun a b => a.2 ≤ b.2)) : ∀ a b, a ≤ b → b < L.length → spP c L a = true → spP c L b = true := by
  intro a b hab hb
  unfold spP
  rw [List.getElem?_eq_getElem (show a < L.length by omega), List.getElem?_eq_getElem hb]
  simp only [decide_eq_true_eq]
  intro h
  rcases Nat.lt_or_ge a b with h1 | h1
  · have := List.pairwise_iff_getElem.1 hs a b (by omega) hb h1; omega
  · obtain rfl : a = b := by omega
    exact h
theorem inS_find {i : Nat} (hi : i ≤ L.length) (hno : ∀ k, k < i → spP c L k = false) (hyes : i < L.length → spP c L i = true) : inS c L = match L[i]? with | some x => decide (x.1 ≤ c) | none => false := by
  unfold inS
  by_cases hlt : i < L.length
  · have h1 : L.find? (fun x => decide (c ≤ x.2)) = some L[i] := by
      rw [List.find?_eq_some_iff_getElem]
      refine ⟨by have := hyes hlt; unfold spP at this; rw [List.getElem?_eq_getElem hlt] at this; exact this, i, hlt, rfl, fun j hj => ?_⟩
      have := hno j hj
      unfold spP at this
      rw [List.getElem?_eq_getElem (show j < L.length by omega)] at this
      simpa using this
    rw [h1, List.getElem?_eq_getElem hlt]
  · have h1 : L.find? (fun x => decide (c ≤ x.2)) = none := by
      rw [List.find?_eq_none]
      intro x hx
      obtain ⟨j, hj, rfl⟩ := List.getElem_of_mem hx
      have := hno j (by omega)
      unfold spP at this
      rw [List.getElem?_eq_getElem hj] at this
      simpa using this
    rw [h1, List.getElem?_eq_none (by omega)]
set_option maxRecDepth 100000 in
set_option maxHeartbeats 2000000 in
theorem in_any (hL : RSl encSp w A L) (cp : Nat) (hs : L.Pairwise (fun a b => a.2 ≤ b.2)) (hl : L.length ≤ 1000) :
    Calls Tryz.prog 212 #[.int .i64 c, .slice A L.length cp] w fun e w' => e = .returned (.bool (inS c L)) ∧ Below w.heap.size w w' := by
  obtain ⟨R, hRR⟩ : ∃ R, R = inS c L := ⟨_, rfl⟩
  rw [← hRR]
  have HRR := Lib.hid hRR
  clear hRR
  have HS := Lib.hid hs
  have HL := Lib.hid hL
  clear hL hs
  go_enter Tryz.func212, Tryz.ntmps212
  go_wp2_with fail
  have hb1 : Below w.heap.size w ((w.alloc (.cells #[.int .i64 c] 3)).alloc (.cells #[.slice A L.length cp] 271)) := (below1 w _).alloc (by simp) _
  have h0 : (w.alloc (.cells #[.int .i64 c] 3)).heap.size = w.heap.size + 1 := by simp
  have e0 : ((w.alloc (.cells #[.int .i64 c] 3)).alloc (.cells #[.slice A L.length cp] 271)).cell? ⟨w.heap.size, 0, none⟩ = some (.int .i64 c) := by
    rw [World.cell?_of_block (w := w.alloc (.cells #[.int .i64 c] 3)) (a := ⟨w.heap.size, 0, none⟩) ((MapKept.heap_alloc _ _).2 _ (by simp))]
    simp only [World.cell?, (MapKept.heap_alloc w (.cells #[.int .i64 c] 3)).1]
    rfl
  have e1 : ((w.alloc (.cells #[.int .i64 c] 3)).alloc (.cells #[.slice A L.length cp] 271)).cell? ⟨w.heap.size + 1, 0, none⟩ = some (.slice A L.length cp) := by
    have := (MapKept.heap_alloc (w.alloc (.cells #[.int .i64 c] 3)) (.cells #[.slice A L.length cp] 271)).1
    rw [h0] at this
    simp only [World.cell?, this]
    rfl
  have HBB := Lib.hid hb1
  generalize hW : (w.alloc (.cells #[.int .i64 c] 3)).alloc (.cells #[.slice A L.length cp] 271) = W at *
  have HSr := search_any (w := W) (F := 253) (caps := #[.pointer (some ⟨w.heap.size + 1, 0, none⟩), .pointer (some ⟨w.heap.size, 0, none⟩)]) (p := spP c L) (enters_mk Tryz.func253 (by kernel_rfl) rfl) L.length (by omega) (spP_mono HS.out)
    (fun k w1 hk hb => in_clos (((World.cell?_of_block (w := W) (a := ⟨w.heap.size, 0, none⟩) (hb.block _ (lt_of_cell e0))).trans e0)) cp ((World.cell?_of_block (w := W) (a := ⟨w.heap.size + 1, 0, none⟩) (hb.block _ (lt_of_cell e1))).trans e1) ((HL.out.up HBB.out).up hb) k hk hl)
  refine HSr.mono ?_
  rintro e w1 ⟨hb2, i, hi, hno, hyes, rfl⟩
  have hin := HRR.out.trans (inS_find hi hno hyes)
  have c0 := (World.cell?_of_block (w := W) (a := ⟨w.heap.size, 0, none⟩) (hb2.block _ (lt_of_cell e0))).trans e0
  have c1 := (World.cell?_of_block (w := W) (a := ⟨w.heap.size + 1, 0, none⟩) (hb2.block _ (lt_of_cell e1))).trans e1
  have hR := (HL.out.up HBB.out).up hb2
  have HB2 := Lib.hid (up2 HBB.out hb2)
  clear HSr hno hyes HRR e0 e1 hb1 hb2 h0 HBB hW
  by_cases hlt : i < L.length
  · obtain ⟨x, hx⟩ : ∃ x, L[i]? = some x := ⟨_, List.getElem?_eq_getElem hlt⟩
    rw [hx] at hin
    obtain ⟨g, o, rfl, hg, hat⟩ := hR.at_ eltSp hx
    have k0 := hat 0 _ rfl
    rw [Nat.add_zero] at k0
    have d1 : decide ((i : Int) < L.length) = true := decide_eq_true (by omega)
    have hlt' : (i : Int) < L.length := by omega
    clear hat hR hx hlt hi
    simp only [] at hin
    cases hd : decide (x.1 ≤ c) with
    | true =>
      rw [hd] at hin
      subst hin
      go_wp2_with fail
      go_region
      go_wp2_with fail
      go_ret
      exact ⟨rfl, HB2.out.drew⟩
    | false =>
      rw [hd] at hin
      subst hin
      go_wp2_with fail
      go_region
      go_wp2_with fail
      go_ret
      exact ⟨rfl, HB2.out.drew⟩
  · rw [List.getElem?_eq_none (by omega)] at hin
    simp only [] at hin
    subst hin
    have d1 : decide ((i : Int) < L.length) = false := decide_eq_false (by omega)
    clear hR
    go_wp2_with fail
    go_region
    go_wp2_with fail
    go_ret
    exact ⟨rfl, HB2.out.drew⟩
end
end Go.Proofs.YtnbccoelbfgmgaaGreatDoor
/- Lines and columns of a text: plain laws. -/
namespace Go.Proofs.YtnbccoelbfgmgaaGreatDoor
set_option linter.unusedVariables false
set_option linter.unusedSimpArgs false
/-- The character at a position, the first position being 1. -/
def chr (cs : List Nat) (i : Nat) : Nat := cs.getD (i - 1) 0
/-- Where the line of a position begins: behind the last line feed before it, but not before lo. -/
def lineB (cs : List Nat) (lo : Nat) : Nat → Nat
  | 0 => lo
  | k + 1 => if k + 1 ≤ lo then lo else if chr cs k = 10 then k + 1 else lineB cs lo k
def lineEf (cs : List Nat) : Nat → Nat → Nat
  | 0, i => i
  | n + 1, i => if chr cs i = 10 then i else lineEf cs n (i + 1)
/-- Where the line of a position ends: at the first line feed from it on, but not behind hi. -/
def lineE (cs : List Nat) (hi i : Nat) : Nat := lineEf cs (hi - i) i
section
variable {cs : List Nat} {lo hi : Nat}
theorem lineB_ge : ∀ i, lo ≤ lineB cs lo i
  | 0 => Nat.le_refl _
  | k + 1 => by
    unfold lineB
    split
    · omega
    · split
      · omega
      · exact lineB_ge k
theorem lineB_le : ∀ i, lo ≤ i → lineB cs lo i ≤ i
  | 0, h => by unfold lineB; omega
  | k + 1, h => by
    unfold lineB
    split
    · omega
    · split
      · omega
      · have := lineB_le k (by omega); omega
theorem lineB_no : ∀ i j, lineB cs lo i ≤ j → j < i → chr cs j ≠ 10
  | 0, j, h, h2 => by omega
  | k + 1, j, h, h2 => by
    unfold lineB at h
    split at h
    · omega
    · split at h
      · omega
      · rename_i hne
        by_cases hj : j = k
        · rw [hj]; exact hne
        · exact lineB_no k j h (by omega)
theorem lineB_at : ∀ i, lineB cs lo i = lo ∨ lo < lineB cs lo i ∧ chr cs (lineB cs lo i - 1) = 10
  | 0 => .inl rfl
  | k + 1 => by
    unfold lineB
    split
    · exact .inl rfl
    · split
      · rename_i h1 h2
        exact .inr ⟨by omega, by rw [show k + 1 - 1 = k by omega]; exact h2⟩
      · exact lineB_at k
/-- The beginning is determined by what it is. -/
theorem lineB_eq : ∀ (i b : Nat), lo ≤ b → b ≤ i → (∀ j, b ≤ j → j < i → chr cs j ≠ 10) → (b = lo ∨ lo < b ∧ chr cs (b - 1) = 10) → lineB cs lo i = b
  | 0, b, h1, h2, _, _ => by unfold lineB; omega
  | k + 1, b, h1, h2, h3, h4 => by
    unfold lineB
    split
    · omega
    · split
      · rename_i h5 h6
        by_cases hb : b = k + 1
        · exact hb.symm
        · exact absurd h6 (h3 k (by omega) (by omega))
      · rename_i h5 h6
        by_cases hb : b = k + 1
        · subst hb
          rcases h4 with h4 | ⟨_, h4⟩
          · omega
          · rw [show k + 1 - 1 = k by omega] at h4; exact absurd h4 h6
        · exact lineB_eq k b h1 (by omega) (fun j hj hk => h3 j hj (by omega)) h4
theorem lineEf_ge : ∀ n i, i ≤ lineEf cs n i ∧ lineEf cs n i ≤ i + n ∧ (∀ j, i ≤ j → j < lineEf cs n i → chr cs j ≠ 10) ∧ (lineEf cs n i = i + n ∨ chr cs (lineEf cs n i) = 10)
  | 0, i => ⟨Nat.le_refl _, Nat.le_refl _, fun j h h2 => by unfold lineEf at h2; omega, .inl rfl⟩
  | n + 1, i => by
    unfold lineEf
    split
    · rename_i h
      exact ⟨Nat.le_refl _, by omega, fun j h h2 => by omega, .inr h⟩
    · rename_i hne
      obtain ⟨h1, h2, h3, h4⟩ := lineEf_ge n (i + 1)
      refine ⟨by omega, by omega, fun j hj hk => ?_, ?_⟩
      · by_cases e : j = i
        · rw [e]; exact hne
        · exact h3 j (by omega) hk
      · rcases h4 with h4 | h4
        · exact .inl (by omega)
        · exact .inr h4
theorem lineE_ge (i : Nat) : i ≤ lineE cs hi i := (lineEf_ge _ _).1
theorem lineE_le (i : Nat) (h : i ≤ hi) : lineE cs hi i ≤ hi := by have := (lineEf_ge (cs := cs) (hi - i) i).2.1; unfold lineE; omega
theorem lineE_no (i j : Nat) (h : i ≤ j) (h2 : j < lineE cs hi i) : chr cs j ≠ 10 := (lineEf_ge _ _).2.2.1 j h h2
theorem lineE_at (i : Nat) (h : i ≤ hi) : lineE cs hi i = hi ∨ lineE cs hi i < hi ∧ chr cs (lineE cs hi i) = 10 := by
  have h1 := (lineEf_ge (cs := cs) (hi - i) i).2.2.2
  have h2 := lineE_le (cs := cs) i h
  rcases h1 with h1 | h1
  · left; unfold lineE; omega
  · by_cases e : lineE cs hi i = hi
    · exact .inl e
    · exact .inr ⟨by omega, h1⟩
/-- Between the ends of a line each position has the same beginning. -/
theorem lineB_same (i k : Nat) (h1 : lo ≤ i) (h2 : lineB cs lo i ≤ k) (h3 : k ≤ lineE cs hi i) : lineB cs lo k = lineB cs lo i :=
  lineB_eq k _ (lineB_ge i) h2 (fun j hj hk => by
    by_cases e : j < i
    · exact lineB_no i j hj e
    · exact lineE_no (hi := hi) i j (by omega) (by omega)) (lineB_at i)
/-! ### Columns -/
/-- The columns of a character; how a column goes on behind a character. -/
def afterN (wid : Nat → Nat) (tab col c : Nat) : Nat := if c = 9 then col + tab - col % tab else col + wid c
def colF (wid : Nat → Nat) (cs : List Nat) (tab : Nat) : Nat → Nat → Nat → Nat
  | 0, _, col => col
  | n + 1, i, col => colF wid cs tab n (i + 1) (afterN wid tab col (chr cs i))
/-- The column of position i in the line that begins at b. -/
def colN (wid : Nat → Nat) (cs : List Nat) (tab b i : Nat) : Nat := colF wid cs tab (i - b) b 0
variable {wid : Nat → Nat} {tab : Nat}
theorem colF_snoc : ∀ n i col, colF wid cs tab (n + 1) i col = afterN wid tab (colF wid cs tab n i col) (chr cs (i + n))
  | 0, i, col => rfl
  | n + 1, i, col => by
    rw [colF, colF_snoc n (i + 1) _, colF, show i + 1 + n = i + (n + 1) by omega]
theorem colN_self (b : Nat) : colN wid cs tab b b = 0 := by unfold colN; rw [Nat.sub_self]; rfl
theorem colN_succ (b i : Nat) (h : b ≤ i) : colN wid cs tab b (i + 1) = afterN wid tab (colN wid cs tab b i) (chr cs i) := by
  unfold colN
  rw [show i + 1 - b = (i - b) + 1 by omega, colF_snoc, show b + (i - b) = i by omega]
theorem afterN_ge (ht : 1 ≤ tab) (col c : Nat) : col ≤ afterN wid tab col c := by
  unfold afterN
  split
  · have := Nat.mod_lt col (show 0 < tab by omega); omega
  · omega
theorem colN_mono (ht : 1 ≤ tab) (b : Nat) : ∀ (k i : Nat), b ≤ i → colN wid cs tab b i ≤ colN wid cs tab b (i + k)
  | 0, i, h => Nat.le_refl _
  | k + 1, i, h => by
    have h1 := colN_mono ht b k i h
    rw [show i + (k + 1) = (i + k) + 1 by omega, colN_succ b (i + k) (by omega)]
    exact Nat.le_trans h1 (afterN_ge ht _ _)
theorem colN_le (ht : 1 ≤ tab) (b i j : Nat) (h : b ≤ i) (hij : i ≤ j) : colN wid cs tab b i ≤ colN wid cs tab b j := by
  have := colN_mono (wid := wid) (cs := cs) ht b (j - i) i h
  rwa [show i + (j - i) = j by omega] at this
theorem afterN_le (hw : ∀ c, wid c ≤ 2) (ht : tab ≤ 64) (col c : Nat) : afterN wid tab col c ≤ col + 64 := by
  unfold afterN
  split
  · omega
  · have := hw c; omega
theorem colN_bound (hw : ∀ c, wid c ≤ 2) (ht : tab ≤ 64) (b : Nat) : ∀ k, colN wid cs tab b (b + k) ≤ 64 * k
  | 0 => by rw [Nat.add_zero, colN_self]; omega
  | k + 1 => by
    have h1 := colN_bound hw ht b k
    rw [show b + (k + 1) = (b + k) + 1 by omega, colN_succ b (b + k) (by omega)]
    have := afterN_le hw ht (colN wid cs tab b (b + k)) (chr cs (b + k))
    omega
theorem colN_cap (hw : ∀ c, wid c ≤ 2) (ht : tab ≤ 64) (b i : Nat) (h : b ≤ i) : colN wid cs tab b i ≤ 64 * (i - b) := by
  have := colN_bound (cs := cs) hw ht b (i - b)
  rwa [show b + (i - b) = i by omega] at this
/-- The first position of a line at a column, or its end. -/
def seekF (wid : Nat → Nat) (cs : List Nat) (tab b : Nat) (col : Nat) : Nat → Nat → Nat
  | 0, i => i
  | n + 1, i => if colN wid cs tab b i < col then seekF wid cs tab b col n (i + 1) else i
def seekN (wid : Nat → Nat) (cs : List Nat) (tab b e col : Nat) : Nat := seekF wid cs tab b col (e - b) b
theorem seekF_is (col b : Nat) : ∀ n i, i ≤ seekF wid cs tab b col n i ∧ seekF wid cs tab b col n i ≤ i + n ∧ (∀ j, i ≤ j → j < seekF wid cs tab b col n i → colN wid cs tab b j < col) ∧
    (seekF wid cs tab b col n i = i + n ∨ col ≤ colN wid cs tab b (seekF wid cs tab b col n i))
  | 0, i => ⟨Nat.le_refl _, Nat.le_refl _, fun j h h2 => by unfold seekF at h2; omega, .inl rfl⟩
  | n + 1, i => by
    unfold seekF
    split
    · rename_i h
      obtain ⟨h1, h2, h3, h4⟩ := seekF_is col b n (i + 1)
      refine ⟨by omega, by omega, fun j hj hk => ?_, ?_⟩
      · by_cases e : j = i
        · rw [e]; exact h
        · exact h3 j (by omega) hk
      · rcases h4 with h4 | h4
        · exact .inl (by omega)
        · exact .inr h4
    · rename_i h
      exact ⟨Nat.le_refl _, by omega, fun j h h2 => by omega, .inr (by omega)⟩
theorem seekN_is (b e col : Nat) (h : b ≤ e) : b ≤ seekN wid cs tab b e col ∧ seekN wid cs tab b e col ≤ e ∧ (∀ j, b ≤ j → j < seekN wid cs tab b e col → colN wid cs tab b j < col) ∧
    (seekN wid cs tab b e col = e ∨ col ≤ colN wid cs tab b (seekN wid cs tab b e col)) := by
  obtain ⟨h1, h2, h3, h4⟩ := seekF_is (wid := wid) (cs := cs) (tab := tab) col b (e - b) b
  unfold seekN
  exact ⟨h1, by omega, h3, by rcases h4 with h4 | h4; exact .inl (by omega); exact .inr h4⟩
/-- It is determined by what it is. -/
theorem seekN_eq (b e col i : Nat) (h : b ≤ e) (h1 : b ≤ i) (h2 : i ≤ e) (h3 : ∀ j, b ≤ j → j < i → colN wid cs tab b j < col) (h4 : i = e ∨ col ≤ colN wid cs tab b i) : seekN wid cs tab b e col = i := by
  obtain ⟨g1, g2, g3, g4⟩ := seekN_is (wid := wid) (cs := cs) (tab := tab) b e col h
  rcases Nat.lt_trichotomy (seekN wid cs tab b e col) i with hl | he | hg
  · have := h3 _ g1 hl
    rcases g4 with g4 | g4 <;> omega
  · exact he
  · have := g3 i h1 hg
    rcases h4 with h4 | h4 <;> omega
/-- Seeking a position's own column finds it no later, and at that column. -/
theorem seek_own (ht : 1 ≤ tab) (b e i : Nat) (h1 : b ≤ i) (h2 : i ≤ e) : seekN wid cs tab b e (colN wid cs tab b i) ≤ i ∧ colN wid cs tab b (seekN wid cs tab b e (colN wid cs tab b i)) = colN wid cs tab b i := by
  obtain ⟨g1, g2, g3, g4⟩ := seekN_is (wid := wid) (cs := cs) (tab := tab) b e (colN wid cs tab b i) (by omega)
  have hle : seekN wid cs tab b e (colN wid cs tab b i) ≤ i := by
    rcases Nat.lt_or_ge i (seekN wid cs tab b e (colN wid cs tab b i)) with h | h
    · have := g3 i h1 h; omega
    · exact h
  refine ⟨hle, ?_⟩
  have hm := colN_le (wid := wid) (cs := cs) ht b _ i g1 hle
  rcases g4 with g4 | g4
  · have : seekN wid cs tab b e (colN wid cs tab b i) = i := by omega
    rw [this]
  · omega
/-! ### Lines -/
def fwdN (cs : List Nat) (hi : Nat) : Nat → Nat → Nat × Nat
  | 0, i => (i, 0)
  | n + 1, i => if lineE cs hi i = hi then (hi, n + 1) else fwdN cs hi n (lineE cs hi i + 1)
def bwdN (cs : List Nat) (lo : Nat) : Nat → Nat → Nat × Nat
  | 0, i => (i, 0)
  | n + 1, i => if i = lo then (lo, n + 1) else bwdN cs lo n (lineB cs lo (i - 1))
/-- The line feeds in a range. -/
def nFeeds (cs : List Nat) : Nat → Nat → Nat
  | 0, _ => 0
  | n + 1, i => (if chr cs i = 10 then 1 else 0) + nFeeds cs n (i + 1)
def feedsIn (cs : List Nat) (a b : Nat) : Nat := nFeeds cs (b - a) a
theorem nFeeds_add : ∀ m n i, nFeeds cs (m + n) i = nFeeds cs m i + nFeeds cs n (i + m)
  | 0, n, i => by simp [nFeeds]
  | m + 1, n, i => by
    rw [show m + 1 + n = (m + n) + 1 by omega, nFeeds, nFeeds, nFeeds_add m n (i + 1), show i + 1 + m = i + (m + 1) by omega]
    omega
theorem feedsIn_self (a : Nat) : feedsIn cs a a = 0 := by unfold feedsIn; rw [Nat.sub_self]; rfl
theorem feedsIn_succ (a b : Nat) (h : a ≤ b) : feedsIn cs a (b + 1) = feedsIn cs a b + (if chr cs b = 10 then 1 else 0) := by
  unfold feedsIn
  rw [show b + 1 - a = (b - a) + 1 by omega, nFeeds_add, show a + (b - a) = b by omega]
  simp [nFeeds]
theorem feedsIn_add (a b c : Nat) (h : a ≤ b) (h2 : b ≤ c) : feedsIn cs a c = feedsIn cs a b + feedsIn cs b c := by
  unfold feedsIn
  rw [show c - a = (b - a) + (c - b) by omega, nFeeds_add, show a + (b - a) = b by omega]
theorem nFeeds_none : ∀ n i, (∀ j, i ≤ j → j < i + n → chr cs j ≠ 10) → nFeeds cs n i = 0
  | 0, i, h => rfl
  | n + 1, i, h => by
    rw [nFeeds, if_neg (h i (by omega) (by omega)), nFeeds_none n (i + 1) (fun j h1 h2 => h j (by omega) (by omega))]
theorem feedsIn_none (a b : Nat) (h : ∀ j, a ≤ j → j < b → chr cs j ≠ 10) : feedsIn cs a b = 0 := nFeeds_none _ _ (fun j h1 h2 => h j h1 (by omega))
theorem nFeeds_zero : ∀ n i, nFeeds cs n i = 0 → ∀ j, i ≤ j → j < i + n → chr cs j ≠ 10
  | 0, i, _, j, h1, h2 => by omega
  | n + 1, i, h, j, h1, h2 => by
    rw [nFeeds] at h
    have h3 : chr cs i ≠ 10 := fun e => by rw [if_pos e] at h; omega
    by_cases e : j = i
    · rw [e]; exact h3
    · exact nFeeds_zero n (i + 1) (by omega) j (by omega) (by omega)
theorem feedsIn_zero (a b : Nat) (h : feedsIn cs a b = 0) (j : Nat) (h1 : a ≤ j) (h2 : j < b) : chr cs j ≠ 10 := nFeeds_zero _ _ h j h1 (by omega)
/-- Moving forward. -/
theorem fwdN_is : ∀ (n i : Nat), i ≤ hi → (fwdN cs hi n i).2 ≤ n ∧ i ≤ (fwdN cs hi n i).1 ∧ (fwdN cs hi n i).1 ≤ hi ∧ feedsIn cs i (fwdN cs hi n i).1 = n - (fwdN cs hi n i).2 ∧
    (0 < (fwdN cs hi n i).2 → (fwdN cs hi n i).1 = hi) ∧ ((fwdN cs hi n i).2 = 0 → 0 < n → i < (fwdN cs hi n i).1 ∧ chr cs ((fwdN cs hi n i).1 - 1) = 10)
  | 0, i, h => ⟨Nat.le_refl _, Nat.le_refl _, h, feedsIn_self i, fun h => by simp [fwdN] at h, fun _ h => by omega⟩
  | n + 1, i, h => by
    have hg := lineE_ge (cs := cs) (hi := hi) i
    have hl := lineE_le (cs := cs) (hi := hi) i h
    have hz := feedsIn_none (cs := cs) i (lineE cs hi i) (fun j h1 h2 => lineE_no i j h1 h2)
    unfold fwdN
    split
    · rename_i he
      rw [he] at hz
      exact ⟨Nat.le_refl _, h, Nat.le_refl _, by rw [hz]; simp, fun _ => rfl, fun h => by simp at h⟩
    · rename_i he
      have hat := (lineE_at (cs := cs) (hi := hi) i h).resolve_left he
      obtain ⟨g1, g2, g3, g4, g5, g6⟩ := fwdN_is n (lineE cs hi i + 1) (by omega)
      have e1 : feedsIn cs i (lineE cs hi i + 1) = 1 := by rw [feedsIn_succ _ _ hg, hz, if_pos hat.2]
      refine ⟨by omega, by omega, g3, ?_, g5, fun h0 _ => ?_⟩
      · rw [feedsIn_add i (lineE cs hi i + 1) _ (by omega) g2, e1, g4]; omega
      · by_cases hn : 0 < n
        · have := g6 h0 hn
          exact ⟨by omega, this.2⟩
        · obtain rfl : n = 0 := by omega
          simp only [fwdN]
          exact ⟨by omega, by rw [Nat.add_sub_cancel]; exact hat.2⟩
/-- Moving back over as many lines as there are line feeds in between leads to the line's beginning. -/
theorem bwdN_back : ∀ (m a t : Nat), lo ≤ a → a ≤ t → feedsIn cs a t = m → bwdN cs lo m (lineB cs lo t) = (lineB cs lo a, 0)
  | 0, a, t, h1, h2, h3 => by
    have h := feedsIn_zero a t h3
    rw [bwdN, lineB_eq t (lineB cs lo a) (lineB_ge a) (Nat.le_trans (lineB_le a h1) h2) (fun j hj hk => ?_) (lineB_at a)]
    by_cases e : j < a
    · exact lineB_no a j hj e
    · exact h j (by omega) hk
  | m + 1, a, t, h1, h2, h3 => by
    -- the last line feed before t is at or behind a
    have hb := lineB_at (cs := cs) (lo := lo) t
    have hno := lineB_no (cs := cs) (lo := lo) t
    have hle := lineB_le (cs := cs) (lo := lo) t (by omega)
    have hgt : a < lineB cs lo t := by
      rcases Nat.lt_or_ge a (lineB cs lo t) with h | h
      · exact h
      · have := feedsIn_none (cs := cs) a t (fun j hj hk => hno j (by omega) hk); omega
    rcases hb with hb | ⟨hb1, hb2⟩
    · omega
    · have hz := feedsIn_none (cs := cs) (lineB cs lo t) t (fun j hj hk => hno j hj hk)
      have e1 := feedsIn_add (cs := cs) a (lineB cs lo t) t (by omega) hle
      have e2 := feedsIn_succ (cs := cs) a (lineB cs lo t - 1) (by omega)
      rw [show lineB cs lo t - 1 + 1 = lineB cs lo t by omega, if_pos hb2] at e2
      rw [bwdN, if_neg (by omega)]
      exact bwdN_back m a (lineB cs lo t - 1) h1 (by omega) (by omega)
theorem lineB_lo (i : Nat) (h : i ≤ lo) : lineB cs lo i = lo := by
  cases i with
  | zero => rfl
  | succ k => unfold lineB; rw [if_pos (by omega)]
theorem lineB_idem (i : Nat) (h : lo ≤ i) : lineB cs lo (lineB cs lo i) = lineB cs lo i :=
  lineB_eq _ _ (lineB_ge i) (Nat.le_refl _) (fun j h1 h2 => by omega) (lineB_at i)
end
end Go.Proofs.YtnbccoelbfgmgaaGreatDoor
/- Plain: the document's way to take the first character of a string (copyistref01.point) finds one exactly where the decoder does; so the two notions of a valid string agree. -/
namespace Go.Proofs.YtnbccoelbfgmgaaGreatDoor
set_option linter.unusedVariables false

def tlN (n i b : Nat) : Prop := i < n ∧ 128 ≤ b ∧ b < 192
instance tlN.dec (n i b : Nat) : Decidable (tlN n i b) := by unfold tlN; infer_instance
def isN (c : Nat) : Prop := c ≤ 1114111 ∧ (c < 55296 ∨ 57343 < c)
instance isN.dec (c : Nat) : Decidable (isN c) := by unfold isN; infer_instance
def c2N (b0 b1 : Nat) : Nat := (b0 - 192) * 64 + b1 - 128
def c3N (b0 b1 b2 : Nat) : Nat := ((b0 - 224) * 64 + b1 - 128) * 64 + b2 - 128
def c4N (b0 b1 b2 b3 : Nat) : Nat := (((b0 - 240) * 64 + b1 - 128) * 64 + b2 - 128) * 64 + b3 - 128
/-- The first character and its length in bytes; length 0: none. -/
def ptN (n b0 b1 b2 b3 : Nat) : Nat × Nat :=
  if b0 < 128 then (b0, 1)
  else if (194 ≤ b0 ∧ b0 < 224) ∧ tlN n 1 b1 then (c2N b0 b1, 2)
  else if (224 ≤ b0 ∧ b0 < 240) ∧ tlN n 1 b1 ∧ tlN n 2 b2 then (if 2048 ≤ c3N b0 b1 b2 ∧ isN (c3N b0 b1 b2) then (c3N b0 b1 b2, 3) else (0, 0))
  else if (240 ≤ b0 ∧ b0 < 245) ∧ tlN n 1 b1 ∧ tlN n 2 b2 ∧ tlN n 3 b3 then (if 65536 ≤ c4N b0 b1 b2 b3 ∧ isN (c4N b0 b1 b2 b3) then (c4N b0 b1 b2 b3, 4) else (0, 0))
  else (0, 0)
set_option maxHeartbeats 4000000 in
set_option maxRecDepth 100000 in
theorem ptN_decode (n b0 b1 b2 b3 : Nat) (h0 : b0 < 256) (h1 : b1 < 256) (h2 : b2 < 256) (h3 : b3 < 256) :
    (ptN n b0 b1 b2 b3 = (0, 0) ∧ Lib.decodeN n b0 b1 b2 b3 = (65533, 1)) ∨ (0 < (ptN n b0 b1 b2 b3).2 ∧ ptN n b0 b1 b2 b3 = Lib.decodeN n b0 b1 b2 b3 ∧ ¬ ((Lib.decodeN n b0 b1 b2 b3).1 = 65533 ∧ (Lib.decodeN n b0 b1 b2 b3).2 = 1)) := by
  unfold ptN Lib.decodeN tlN isN c2N c3N c4N
  by_cases a0 : b0 < 128
  · rw [if_pos a0, if_pos a0]
    right
    refine ⟨by simp, rfl, ?_⟩
    simp; omega
  rw [if_neg a0, if_neg a0]
  by_cases a1 : b0 / 32 = 6 ∧ (1 < n ∧ b1 / 64 = 2)
  · rw [if_pos a1]
    by_cases a2 : b0 % 32 * 64 + b1 % 64 ≥ 128
    · rw [if_pos a2, if_pos (by omega)]
      right
      exact ⟨by simp, by rw [Prod.mk.injEq]; omega, by simp⟩
    · rw [if_neg a2, if_neg (by omega), if_neg (by omega), if_neg (by omega)]
      exact .inl ⟨rfl, rfl⟩
  rw [if_neg a1, if_neg (by omega)]
  by_cases a3 : b0 / 16 = 14 ∧ (1 < n ∧ b1 / 64 = 2) ∧ (2 < n ∧ b2 / 64 = 2)
  · rw [if_pos a3, if_pos (by omega)]
    have ec : ((b0 - 224) * 64 + b1 - 128) * 64 + b2 - 128 = b0 % 16 * 4096 + b1 % 64 * 64 + b2 % 64 := by omega
    rw [ec]
    split
    · rename_i h
      rw [if_pos (by omega)]
      exact .inr ⟨by simp, rfl, by simp⟩
    · rename_i h
      rw [if_neg (by omega)]
      exact .inl ⟨rfl, rfl⟩
  rw [if_neg a3, if_neg (by omega)]
  by_cases a4 : b0 / 8 = 30 ∧ (1 < n ∧ b1 / 64 = 2) ∧ (2 < n ∧ b2 / 64 = 2) ∧ (3 < n ∧ b3 / 64 = 2)
  · rw [if_pos a4]
    by_cases a5 : b0 < 245
    · rw [if_pos (by omega)]
      have ec : (((b0 - 240) * 64 + b1 - 128) * 64 + b2 - 128) * 64 + b3 - 128 = b0 % 8 * 262144 + b1 % 64 * 4096 + b2 % 64 * 64 + b3 % 64 := by omega
      rw [ec]
      split
      · rename_i h
        rw [if_pos (by omega)]
        exact .inr ⟨by simp, rfl, by simp⟩
      · rename_i h
        rw [if_neg (by omega)]
        exact .inl ⟨rfl, rfl⟩
    · rw [if_neg (by omega), if_neg (by omega)]
      exact .inl ⟨rfl, rfl⟩
  · rw [if_neg a4, if_neg (by omega)]
    exact .inl ⟨rfl, rfl⟩

def bAt (l : List UInt8) (i : Nat) : Nat := (l.getD i 0).toNat
theorem bAt_lt (l : List UInt8) (i : Nat) : bAt l i < 256 := (l.getD i 0).toNat_lt
/-- The first character of a string, and its length. -/
def ptL (l : List UInt8) : Nat × Nat := ptN l.length (bAt l 0) (bAt l 1) (bAt l 2) (bAt l 3)
theorem ptL_bound (l : List UInt8) (h : l ≠ []) : (ptL l).2 ≤ l.length ∧ (ptL l).2 ≤ 4 ∧ (ptL l).1 ≤ 1114111 := by
  have hl : 0 < l.length := List.length_pos_iff.2 h
  unfold ptL ptN
  generalize bAt l 0 = b0
  generalize bAt l 1 = b1
  generalize bAt l 2 = b2
  generalize bAt l 3 = b3
  by_cases a0 : b0 < 128
  · rw [if_pos a0]; exact ⟨hl, by omega, by show b0 ≤ _; omega⟩
  rw [if_neg a0]
  by_cases a1 : (194 ≤ b0 ∧ b0 < 224) ∧ tlN l.length 1 b1
  · rw [if_pos a1]
    exact ⟨a1.2.1, by omega, by show c2N b0 b1 ≤ _; unfold c2N; have := a1.2.2; omega⟩
  rw [if_neg a1]
  by_cases a2 : (224 ≤ b0 ∧ b0 < 240) ∧ tlN l.length 1 b1 ∧ tlN l.length 2 b2
  · rw [if_pos a2]
    by_cases a3 : 2048 ≤ c3N b0 b1 b2 ∧ isN (c3N b0 b1 b2)
    · rw [if_pos a3]; exact ⟨a2.2.2.1, by show 3 ≤ 4; omega, a3.2.1⟩
    · rw [if_neg a3]; exact ⟨Nat.zero_le _, Nat.zero_le _, Nat.zero_le _⟩
  rw [if_neg a2]
  by_cases a4 : (240 ≤ b0 ∧ b0 < 245) ∧ tlN l.length 1 b1 ∧ tlN l.length 2 b2 ∧ tlN l.length 3 b3
  · rw [if_pos a4]
    by_cases a5 : 65536 ≤ c4N b0 b1 b2 b3 ∧ isN (c4N b0 b1 b2 b3)
    · rw [if_pos a5]; exact ⟨a4.2.2.2.1, Nat.le_refl _, a5.2.1⟩
    · rw [if_neg a5]; exact ⟨Nat.zero_le _, Nat.zero_le _, Nat.zero_le _⟩
  · rw [if_neg a4]; exact ⟨Nat.zero_le _, Nat.zero_le _, Nat.zero_le _⟩
/-- The characters of a string; none if the string is not valid. -/
def chars : Nat → List UInt8 → Option (List Nat)
  | 0, _ => some []
  | n + 1, l => if l = [] then some [] else if (ptL l).2 = 0 then none else (chars n (l.drop (ptL l).2)).map ((ptL l).1 :: ·)
theorem chars_nil : ∀ n, chars n [] = some []
  | 0 => rfl
  | _ + 1 => by simp [chars]
theorem chars_fuel : ∀ (n m : Nat) (l : List UInt8), l.length ≤ n → l.length ≤ m → chars n l = chars m l
  | 0, m, l, hn, _ => by
    have : l = [] := List.eq_nil_of_length_eq_zero (by omega)
    subst this; rw [chars_nil, chars_nil]
  | n + 1, 0, l, _, hm => by
    have : l = [] := List.eq_nil_of_length_eq_zero (by omega)
    subst this; rw [chars_nil, chars_nil]
  | n + 1, m + 1, l, hn, hm => by
    unfold chars
    by_cases hne : l = []
    · simp [hne]
    · have hl : 0 < l.length := List.length_pos_iff.2 hne
      rw [if_neg hne, if_neg hne]
      by_cases h0 : (ptL l).2 = 0
      · rw [if_pos h0, if_pos h0]
      · rw [if_neg h0, if_neg h0, chars_fuel n m (l.drop (ptL l).2) (by rw [List.length_drop]; omega) (by rw [List.length_drop]; omega)]
def charsD (l : List UInt8) : Option (List Nat) := chars l.length l
theorem charsD_nil : charsD [] = some [] := rfl
theorem charsD_step (l : List UInt8) (hne : l ≠ []) : charsD l = if (ptL l).2 = 0 then none else (charsD (l.drop (ptL l).2)).map ((ptL l).1 :: ·) := by
  have hl : 0 < l.length := List.length_pos_iff.2 hne
  obtain ⟨n, hn⟩ : ∃ n, l.length = n + 1 := ⟨l.length - 1, by omega⟩
  have e : charsD l = chars (n + 1) l := by unfold charsD; rw [hn]
  rw [e]
  show (if l = [] then some [] else _) = _
  rw [if_neg hne]
  by_cases h0 : (ptL l).2 = 0
  · rw [if_pos h0, if_pos h0]
  · rw [if_neg h0, if_neg h0]
    unfold charsD
    rw [chars_fuel n (l.drop (ptL l).2).length _ (by rw [List.length_drop]; omega) (Nat.le_refl _)]
theorem ptL_decode (l : List UInt8) : (ptL l = (0, 0) ∧ Lib.decodeL l = (65533, 1)) ∨ (0 < (ptL l).2 ∧ ptL l = Lib.decodeL l ∧ ¬ ((Lib.decodeL l).1 = 65533 ∧ (Lib.decodeL l).2 = 1)) := by
  rw [Lib.decodeL_N]
  exact ptN_decode _ _ _ _ _ (bAt_lt l 0) (bAt_lt l 1) (bAt_lt l 2) (bAt_lt l 3)
/-- The two notions of a valid string agree. -/
theorem chars_valid : ∀ (n : Nat) (l : List UInt8), l.length ≤ n → (charsD l).isSome = Lib.validD l
  | 0, l, hn => by
    have : l = [] := List.eq_nil_of_length_eq_zero (by omega)
    subst this; rfl
  | n + 1, l, hn => by
    by_cases hne : l = []
    · subst hne; rfl
    · have hl : 0 < l.length := List.length_pos_iff.2 hne
      rw [charsD_step l hne, Lib.validD_step l hne]
      rcases ptL_decode l with ⟨h1, h2⟩ | ⟨h1, h2, h3⟩
      · rw [h1, h2]; rfl
      · rw [if_neg (by omega), if_neg h3, ← h2, Option.isSome_map]
        exact chars_valid n _ (by rw [List.length_drop]; omega)
theorem chars_len : ∀ (n : Nat) (l : List UInt8) (cs : List Nat), l.length ≤ n → charsD l = some cs → cs.length ≤ l.length
  | 0, l, cs, hn, h => by
    have : l = [] := List.eq_nil_of_length_eq_zero (by omega)
    subst this
    rw [charsD_nil] at h; cases h; simp
  | n + 1, l, cs, hn, h => by
    by_cases hne : l = []
    · subst hne; rw [charsD_nil] at h; cases h; simp
    · have hl : 0 < l.length := List.length_pos_iff.2 hne
      rw [charsD_step l hne] at h
      by_cases h0 : (ptL l).2 = 0
      · rw [if_pos h0] at h; cases h
      · rw [if_neg h0] at h
        cases hc : charsD (l.drop (ptL l).2) with
        | none => rw [hc] at h; cases h
        | some t =>
          rw [hc] at h
          cases h
          have := chars_len n (l.drop (ptL l).2) t (by rw [List.length_drop]; omega) hc
          rw [List.length_drop] at this
          simp only [List.length_cons]; omega
end Go.Proofs.YtnbccoelbfgmgaaGreatDoor
/- package runes: Is, Width, Word. -/
namespace Go.Proofs.YtnbccoelbfgmgaaGreatDoor
open Go.RowKit
set_option linter.unusedVariables false
set_option linter.unusedSimpArgs false
theorem wpList_fresh {P : Program} {ops : Array Oper} {rest : List Oper} {o : Oper} {a : Act} {w : World} {Q : Exit → Act → World → Prop} (hgd : o.guard = none) (ty : TypeId) (x y : Operand) (ho : o.op = .store ty x y)
    (cells old : Array Value) (t : TypeId) (n : Nat) (hx : a.eval x = .pointer (some ⟨n, 0, none⟩)) (hn : n = w.heap.size) (hy : a.eval y = .agg cells) (hi : (P.info? ty).map (·.size) = some cells.size)
    (hold : old.size = cells.size) (h1 : cells.all (·.oneCell') = true)
    (h : wpList P ops Q rest (a.put o.dst undef) (w.alloc (.cells cells t))) : wpList P ops Q (o :: rest) a (w.alloc (.cells old t)) := by
  subst hn
  refine wpList_store_row hgd ty x y ho w.heap.size cells hx hy t old (MapKept.heap_alloc _ _).1 hi hold h1 ?_
  have e : (w.alloc (.cells old t)).setRow w.heap.size cells = w.alloc (.cells cells t) := by
    have e : ∀ (xs : Array Obj) (f : Obj → Obj) (x : Obj), (xs.push x).modify xs.size f = xs.push (f x) := fun xs f x => by
      apply Array.ext
      · simp
      · intro i h1 h2
        rw [Array.getElem_modify, Array.getElem_push, Array.getElem_push]
        by_cases h : xs.size = i
        · subst h; simp
        · have : i < xs.size := by simp at h1; omega
          simp [h, this]
    simp only [World.setRow, World.alloc, e]
  rw [e]
  exact h
def zeroL : List (Int × Int) := [(768, 879), (1155, 1161), (1425, 1469), (8203, 8207), (8400, 8447), (65024, 65039), (65056, 65071)]
def twoL : List (Int × Int) := [(0, 8), (10, 31), (127, 127), (4352, 4447), (11904, 12350), (12353, 42191), (44032, 55203), (63744, 64255), (65072, 65135), (65280, 65376), (65504, 65510), (127744, 128591), (129280, 129535), (131072, 262141)]
def wordL : List (Int × Int) := [(48, 57), (65, 90), (97, 122), (170, 170), (181, 181), (186, 186), (192, 214), (216, 246), (248, 591), (768, 893), (895, 902), (904, 1023), (1024, 1327), (1488, 1514), (12353, 12543), (13312, 40959), (44032, 55203), (131072, 262141)]
set_option maxHeartbeats 1000000 in
theorem is_ok (c : Nat) (hc : isN c) (w : World) : Calls Tryz.prog 50 #[.int .i64 c] w fun e w' => e = .returned (.bool true) ∧ w = w' := by
  obtain ⟨h1, h2⟩ := hc
  have d1 : decide ((0 : Int) ≤ (c : Int)) = true := decide_eq_true (by omega)
  have d2 : decide ((c : Int) ≤ (1114111 : Int)) = true := decide_eq_true (by omega)
  by_cases h3 : 55296 ≤ c
  · have d3 : decide ((55296 : Int) ≤ (c : Int)) = true := decide_eq_true (by omega)
    have d4 : decide ((c : Int) ≤ (57343 : Int)) = false := decide_eq_false (by omega)
    clear h1 h2 h3
    go_enter Tryz.func50, Tryz.ntmps50
    go_wp2_with fail
    go_ret
    exact ⟨rfl, rfl⟩
  · have d3 : decide ((55296 : Int) ≤ (c : Int)) = false := decide_eq_false (by omega)
    clear h1 h2 h3
    go_enter Tryz.func50, Tryz.ntmps50
    go_wp2_with fail
    go_ret
    exact ⟨rfl, rfl⟩
theorem RSl.arr {α : Type} {enc : α → List Value} {w : World} {g : Nat} {zs : List α} {T : TypeId} {C : Array Value} (hg : w.heap[g]? = some (.cells C T)) (he : C.toList = zs.flatMap enc) : RSl enc w (some ⟨g, 0, none⟩) zs := fun _ => by
  refine ⟨g, 0, rfl, (Array.getElem?_eq_some_iff.1 hg).1, fun j u hj => ?_⟩
  have e : C[j]? = some u := by rw [← Array.getElem?_toList, he]; exact hj
  simp [World.cell?, hg, e]
def widN (c : Nat) : Nat := if inS c zeroL then 0 else if inS c twoL then 2 else 1
theorem widN_le (c : Nat) : widN c ≤ 2 := by unfold widN; split <;> (try split) <;> omega


/-- The blocks of Width's two lists. -/
def wZ : Array Value := #[.int .i64 768, .int .i64 879, .int .i64 1155, .int .i64 1161, .int .i64 1425, .int .i64 1469, .int .i64 8203, .int .i64 8207, .int .i64 8400, .int .i64 8447, .int .i64 65024, .int .i64 65039, .int .i64 65056, .int .i64 65071]
def wT : Array Value := #[.int .i64 0, .int .i64 8, .int .i64 10, .int .i64 31, .int .i64 127, .int .i64 127, .int .i64 4352, .int .i64 4447, .int .i64 11904, .int .i64 12350, .int .i64 12353, .int .i64 42191, .int .i64 44032, .int .i64 55203, .int .i64 63744, .int .i64 64255, .int .i64 65072, .int .i64 65135, .int .i64 65280, .int .i64 65376, .int .i64 65504, .int .i64 65510, .int .i64 127744, .int .i64 128591, .int .i64 129280, .int .i64 129535, .int .i64 131072, .int .i64 262141]
def wW : Array Value := #[.int .i64 48, .int .i64 57, .int .i64 65, .int .i64 90, .int .i64 97, .int .i64 122, .int .i64 170, .int .i64 170, .int .i64 181, .int .i64 181, .int .i64 186, .int .i64 186, .int .i64 192, .int .i64 214, .int .i64 216, .int .i64 246, .int .i64 248, .int .i64 591, .int .i64 768, .int .i64 893, .int .i64 895, .int .i64 902, .int .i64 904, .int .i64 1023, .int .i64 1024, .int .i64 1327, .int .i64 1488, .int .i64 1514, .int .i64 12353, .int .i64 12543, .int .i64 13312, .int .i64 40959, .int .i64 44032, .int .i64 55203, .int .i64 131072, .int .i64 262141]
set_option maxRecDepth 100000 in
set_option maxHeartbeats 1000000 in
theorem width_ok (c : Nat) (hc : isN c) (w : World) : Calls Tryz.prog 162 #[.int .i64 c] w fun e w' => e = .returned (.int .i64 (widN c)) ∧ Below w.heap.size w w' := by
  have HI := Lib.hid (is_ok c hc)
  clear hc
  obtain ⟨R, hR⟩ : ∃ R, R = widN c := ⟨_, rfl⟩
  rw [← hR]
  unfold widN at hR
  have HR := Lib.hid hR
  clear hR
  go_enter Tryz.func162, Tryz.ntmps162
  go_wp2_with (first | refine wpList_fresh rfl 268 _ _ rfl wZ _ _ _ rfl (by simp) rfl (by as_aux_lemma => kernel_rfl) (by as_aux_lemma => kernel_rfl) (by as_aux_lemma => kernel_rfl) ?_ | refine wpList_fresh rfl 269 _ _ rfl wT _ _ _ rfl (by simp) rfl (by as_aux_lemma => kernel_rfl) (by as_aux_lemma => kernel_rfl) (by as_aux_lemma => kernel_rfl) ?_)
  have HB0 := Lib.hid ((below1 w (.cells wZ 268)).alloc (by simp) (.cells wT 269))
  have g0 : ((w.alloc (.cells wZ 268)).alloc (.cells wT 269)).heap[w.heap.size]? = some (.cells wZ 268) := ((MapKept.heap_alloc _ _).2 _ (by simp)).trans (MapKept.heap_alloc w _).1
  have g1 : ((w.alloc (.cells wZ 268)).alloc (.cells wT 269)).heap[w.heap.size + 1]? = some (.cells wT 269) := by
    have := (MapKept.heap_alloc (w.alloc (.cells wZ 268)) (.cells wT 269)).1
    simpa using this
  have r0 := RSl.arr (enc := encSp) (zs := zeroL) g0 (by kernel_rfl)
  have r1 := RSl.arr (enc := encSp) (zs := twoL) g1 (by kernel_rfl)
  generalize (w.alloc (.cells wZ 268)).alloc (.cells wT 269) = W at *
  have i0 := Lib.hid (in_any (c := (c : Int)) r0 7 (by decide) (by decide))
  refine (HI.out W).mono ?_
  rintro e w1 ⟨rfl, rfl⟩
  have hR := HR.out
  clear HR
  have R1 := Lib.hid r1
  clear r1 r0 g0 g1
  cases h0 : inS (c : Int) zeroL with
  | true =>
    rw [h0] at i0 hR
    simp only [if_true] at hR
    subst hR
    clear h0
    go_wp2_with fail
    refine i0.out.mono ?_
    rintro e w1 ⟨rfl, hb⟩
    have HB1 := Lib.hid (up2 HB0.out hb)
    clear hb HB0 R1
    go_wp2_with fail
    go_ret
    exact ⟨rfl, HB1.out⟩
  | false =>
    rw [h0] at i0 hR
    clear h0
    go_wp2_with fail
    refine i0.out.mono ?_
    rintro e w1 ⟨rfl, hb⟩
    have HB1 := Lib.hid (up2 HB0.out hb)
    have i1 := Lib.hid (in_any (c := (c : Int)) (R1.out.up hb) 14 (by decide) (by decide))
    clear hb HB0 R1
    cases h0 : inS (c : Int) twoL with
    | true =>
      rw [h0] at i1 hR
      simp at hR
      subst hR
      clear h0
      go_wp2_with fail
      refine i1.out.mono ?_
      rintro e w2 ⟨rfl, hb⟩
      have HB2 := Lib.hid (up2 HB1.out hb)
      clear hb
      go_wp2_with fail
      go_ret
      exact ⟨rfl, HB2.out⟩
    | false =>
      rw [h0] at i1 hR
      simp at hR
      subst hR
      clear h0
      go_wp2_with fail
      refine i1.out.mono ?_
      rintro e w2 ⟨rfl, hb⟩
      have HB2 := Lib.hid (up2 HB1.out hb)
      clear hb
      go_wp2_with fail
      go_ret
      exact ⟨rfl, HB2.out⟩
end Go.Proofs.YtnbccoelbfgmgaaGreatDoor
