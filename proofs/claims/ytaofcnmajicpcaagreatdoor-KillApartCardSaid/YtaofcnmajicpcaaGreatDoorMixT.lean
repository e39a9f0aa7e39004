/- A region that draws its order: pure operations first; where two others come up at once, both ways. -/
import Derived.Test.YtaofcnmajicpcaaGreatDoorMix
namespace Go.Proofs.YtaofcnmajicpcaaGreatDoor
open Go.RowKit
set_option linter.unusedVariables false
/-- How a region is walked. -/
inductive PlanT where
  | done (last : List Nat)
  | one (seg : List Nat) (i : Nat) (r : PlanT)
  | two (seg : List Nat) (i : Nat) (r : PlanT) (j : Nat) (s : PlanT)
section
variable {P : Program} {md : Region.Mode} {S : World → Prop} {Q : Exit → Act → World → Prop}
def wpMixT (P : Program) (l : List Oper) (S : World → Prop) (Q : Exit → Act → World → Prop) (T : Act → World → Prop) : PlanT → Act → World → Prop
  | .done last, a, w => wpQuiet P l.toArray S (fun a' => T a' w) (pk l last) a
  | .one seg i r, a, w => wpQuiet P l.toArray S (fun a' => wpList P l.toArray (thenQ Q fun a'' w'' => S w'' ∧ wpMixT P l S Q T r a'' w'') (pk l [i]) a' w) (pk l seg) a
  | .two seg i r j s, a, w => wpQuiet P l.toArray S (fun a' => wpList P l.toArray (thenQ Q fun a'' w'' => S w'' ∧ wpMixT P l S Q T r a'' w'') (pk l [i]) a' w ∧ wpList P l.toArray (thenQ Q fun a'' w'' => S w'' ∧ wpMixT P l S Q T s a'' w'') (pk l [j]) a' w) (pk l seg) a
def cntT : PlanT → Nat
  | .done last => last.length
  | .one seg _ r => seg.length + 1 + cntT r
  | .two seg _ r _ _ => seg.length + 1 + cntT r
def mixTB (md : Region.Mode) (l : List Oper) (n : Nat) : PlanT → Array Bool → Bool
  | .done last, listed => match segB md l n last listed with
    | none => false
    | some l' => Region.seqB md l.toArray (l.length - n) n l'
  | .one seg i r, listed => match segB md l n seg listed with
    | none => false
    | some l' => decide (Region.ready md l.toArray l' = [i]) && decide (i < n) && mixTB md l n r (l'.setIfInBounds i true)
  | .two seg i r j s, listed => match segB md l n seg listed with
    | none => false
    | some l' => decide (Region.ready md l.toArray l' = [i, j]) && decide (i < n) && decide (j < n) && decide (cntT r = cntT s) && mixTB md l n r (l'.setIfInBounds i true) && mixTB md l n s (l'.setIfInBounds j true)
def mixTAll (l : List Oper) (n : Nat) (plan : PlanT) : Bool :=
  Region.noSelect l.toArray && (decide (n = l.length) || (decide (n < l.length) && Region.sinkB .any l.toArray n && Region.chainB .any l.toArray n)) && decide (cntT plan = n) && mixTB .any l n plan (Array.replicate l.length false)

theorem mixT_headM {l : List Oper} {n : Nat} (hsel : Region.noSelect l.toArray = true) (hQ : ∀ c d v a w, Q (.panic c) (Act.put a d v) w → Q (.panic c) a w)
    (htw : ∀ listed, HeadInv md l.toArray n listed → ∀ i, i < n → listed.getD i true = false → ∀ t, n ≤ t → t ∉ Region.ready md l.toArray listed) :
    ∀ (plan : PlanT) (listed : Array Bool) (a : Act) (w : World), HeadInv md l.toArray n listed → mixTB md l n plan listed = true → S w →
      wpMixT P l S Q (fun a w => wpList P l.toArray Q (l.drop n) a w) plan a w →
      headM P md l.toArray S Q n (fun listed a w => Region.seqB md l.toArray (l.length - n) n listed = true ∧ wpList P l.toArray Q (l.drop n) a w) (cntT plan) listed a w
  | .done last, listed, a, w, inv, hB, hS, h => by
    unfold mixTB at hB
    split at hB
    · cases hB
    · rename_i l' hl'
      have := seg_headM (P := P) (S := S) (Q := Q) (L := fun listed a w => Region.seqB md l.toArray (l.length - n) n listed = true ∧ wpList P l.toArray Q (l.drop n) a w) hsel hQ htw (fun listed a w h => seqB_ready h.1) last listed l' 0 _ a w inv hl' hS h (fun _ a' h' => ⟨hB, h'⟩)
      simpa [cntT] using this
  | .one seg i r, listed, a, w, inv, hB, hS, h => by
    unfold mixTB at hB
    split at hB
    · cases hB
    · rename_i l' hl'
      simp only [Bool.and_eq_true, decide_eq_true_eq] at hB
      obtain ⟨⟨hr, hin⟩, hB⟩ := hB
      have := seg_headM (P := P) (S := S) (Q := Q) (L := fun listed a w => Region.seqB md l.toArray (l.length - n) n listed = true ∧ wpList P l.toArray Q (l.drop n) a w) hsel hQ htw (fun listed a w h => seqB_ready h.1) seg listed l' (1 + cntT r) _ a w inv hl' hS h (fun inv' a' h' => by
        rw [Nat.add_comm 1]
        refine ⟨by rw [hr]; simp, fun j hj => ?_⟩
        have hj0 := hj
        rw [hr] at hj
        have hji : j = i := by simpa using hj
        subst hji
        refine ⟨hin, ?_⟩
        obtain ⟨_, oj, hoj, _⟩ := mem_ready.1 hj0
        have e : pk l [j] = [oj] := by
          have : l[j]? = some oj := by simpa using hoj
          rw [pk_cons, pushAt_eq _ _ _ this]; rfl
        rw [e] at h'
        exact wpOp_mono (fun a'' w'' h3 => ⟨h3.1, mixT_headM hsel hQ htw r _ a'' w'' (inv'.set hj0 hin) hB h3.1 h3.2⟩) (wpOp_of_list hoj h'))
      simp only [cntT]
      rwa [show seg.length + 1 + cntT r = seg.length + (1 + cntT r) by omega]
  | .two seg i r j s, listed, a, w, inv, hB, hS, h => by
    unfold mixTB at hB
    split at hB
    · cases hB
    · rename_i l' hl'
      simp only [Bool.and_eq_true, decide_eq_true_eq] at hB
      obtain ⟨⟨⟨⟨⟨hr, hin⟩, hjn⟩, hc⟩, hB⟩, hB2⟩ := hB
      have := seg_headM (P := P) (S := S) (Q := Q) (L := fun listed a w => Region.seqB md l.toArray (l.length - n) n listed = true ∧ wpList P l.toArray Q (l.drop n) a w) hsel hQ htw (fun listed a w h => seqB_ready h.1) seg listed l' (1 + cntT r) _ a w inv hl' hS h (fun inv' a' h' => by
        rw [Nat.add_comm 1]
        refine ⟨by rw [hr]; simp, fun t ht => ?_⟩
        have ht0 := ht
        rw [hr] at ht
        obtain ⟨_, ot, hot, _⟩ := mem_ready.1 ht0
        have e : pk l [t] = [ot] := by
          have : l[t]? = some ot := by simpa using hot
          rw [pk_cons, pushAt_eq _ _ _ this]; rfl
        have hti : t = i ∨ t = j := by simpa using ht
        rcases hti with rfl | rfl
        · refine ⟨hin, ?_⟩
          have h1 := h'.1
          rw [e] at h1
          exact wpOp_mono (fun a'' w'' h3 => ⟨h3.1, mixT_headM hsel hQ htw r _ a'' w'' (inv'.set ht0 hin) hB h3.1 h3.2⟩) (wpOp_of_list hot h1)
        · refine ⟨hjn, ?_⟩
          have h1 := h'.2
          rw [e] at h1
          rw [hc]
          exact wpOp_mono (fun a'' w'' h3 => ⟨h3.1, mixT_headM hsel hQ htw s _ a'' w'' (inv'.set ht0 hjn) hB2 h3.1 h3.2⟩) (wpOp_of_list hot h1))
      simp only [cntT]
      rwa [show seg.length + 1 + cntT r = seg.length + (1 + cntT r) by omega]
end
theorem wp_region_mixT {P : Program} {id : Nat} {Q : Exit → Act → World → Prop} {a : Act} {w : World} {l : List Oper} (N n : Nat) (plan : PlanT) (hm : P.follows .mixedOrders = true) (hQ : ∀ c d v a w, Q (.panic c) (Act.put a d v) w → Q (.panic c) a w)
    (hB : mixTAll l n plan = true)
    (h : wpMixT P l (fun w' => ∃ x : UpW N w, w' = x.w) Q (fun a w1 => wpList P l.toArray Q (l.drop n) a w1) plan a w.drew) : (Code.region id l.toArray true).wp P Q a w := by
  simp only [mixTAll, Bool.and_eq_true, Bool.or_eq_true, decide_eq_true_eq] at hB
  obtain ⟨⟨⟨hsel, hn⟩, hcnt⟩, hmix⟩ := hB
  have hnl : n ≤ l.length := by rcases hn with h | h <;> omega
  have inv0 : HeadInv .any l.toArray n (Array.replicate l.length false) :=
    ⟨by simp, fun j oj _ hl => (by rw [getD_replicate_false] at hl; cases hl), fun t _ ht => getD_in (by simpa using ht) (getD_replicate_false _ _)⟩
  have htw : ∀ listed, HeadInv .any l.toArray n listed → ∀ i, i < n → listed.getD i true = false → ∀ t, n ≤ t → t ∉ Region.ready .any l.toArray listed := fun listed inv i hi hun t ht hr => by
    rcases hn with hn | ⟨⟨hn, hs⟩, hc⟩
    · obtain ⟨_, ot, hot, _⟩ := mem_ready.1 hr
      have := (Array.getElem?_eq_some_iff.1 hot).1
      simp at this
      omega
    · exact tail_waits hs hc (by simpa using hn) inv _ i rfl hi hun t ht hr
  have H := mixT_headM (md := .any) hsel hQ htw plan _ a w.drew inv0 hmix ⟨⟨w.drew, (Below.refl N w).drew⟩, rfl⟩ h
  refine wp_region_any hm ?_
  have key := any_of_headM (Q := Q) (g := l.length - n) (fun listed a' w' hL => by
    have := wpAny_of_seq (md := .any) (Q' := Q) (l.drop n) n listed a' w' (fun j => by simp [List.getElem?_drop]) (by rw [List.length_drop]; exact hL.1) hL.2
    rwa [List.length_drop] at this) _ _ _ _ H
  rw [hcnt, show n + (l.length - n) = l.toArray.size by simp; omega] at key
  simpa using key
/-- A world in which nothing old has turned but blocks in T. -/
structure OnW (T : Nat → Prop) (w0 : World) where
  w : World
  on : Only T w0 w
instance OnW.some (T : Nat → Prop) (w0 : World) : Nonempty (OnW T w0) := ⟨⟨w0, Only.refl T w0⟩⟩
/-- The same, for a region whose operations may turn blocks in T. -/
theorem wp_region_mixO {P : Program} {id : Nat} {Q : Exit → Act → World → Prop} {a : Act} {w : World} {l : List Oper} (T : Nat → Prop) (n : Nat) (plan : PlanT) (hm : P.follows .mixedOrders = true) (hQ : ∀ c d v a w, Q (.panic c) (Act.put a d v) w → Q (.panic c) a w)
    (hB : mixTAll l n plan = true)
    (h : wpMixT P l (fun w' => ∃ x : OnW T w, w' = x.w) Q (fun a w1 => wpList P l.toArray Q (l.drop n) a w1) plan a w.drew) : (Code.region id l.toArray true).wp P Q a w := by
  simp only [mixTAll, Bool.and_eq_true, Bool.or_eq_true, decide_eq_true_eq] at hB
  obtain ⟨⟨⟨hsel, hn⟩, hcnt⟩, hmix⟩ := hB
  have hnl : n ≤ l.length := by rcases hn with h | h <;> omega
  have inv0 : HeadInv .any l.toArray n (Array.replicate l.length false) :=
    ⟨by simp, fun j oj _ hl => (by rw [getD_replicate_false] at hl; cases hl), fun t _ ht => getD_in (by simpa using ht) (getD_replicate_false _ _)⟩
  have htw : ∀ listed, HeadInv .any l.toArray n listed → ∀ i, i < n → listed.getD i true = false → ∀ t, n ≤ t → t ∉ Region.ready .any l.toArray listed := fun listed inv i hi hun t ht hr => by
    rcases hn with hn | ⟨⟨hn, hs⟩, hc⟩
    · obtain ⟨_, ot, hot, _⟩ := mem_ready.1 hr
      have := (Array.getElem?_eq_some_iff.1 hot).1
      simp at this
      omega
    · exact tail_waits hs hc (by simpa using hn) inv _ i rfl hi hun t ht hr
  have H := mixT_headM (md := .any) hsel hQ htw plan _ a w.drew inv0 hmix ⟨⟨w.drew, (Only.refl T w).drew⟩, rfl⟩ h
  refine wp_region_any hm ?_
  have key := any_of_headM (Q := Q) (g := l.length - n) (fun listed a' w' hL => by
    have := wpAny_of_seq (md := .any) (Q' := Q) (l.drop n) n listed a' w' (fun j => by simp [List.getElem?_drop]) (by rw [List.length_drop]; exact hL.1) hL.2
    rwa [List.length_drop] at this) _ _ _ _ H
  rw [hcnt, show n + (l.length - n) = l.toArray.size by simp; omega] at key
  simpa using key
end Go.Proofs.YtaofcnmajicpcaaGreatDoor
