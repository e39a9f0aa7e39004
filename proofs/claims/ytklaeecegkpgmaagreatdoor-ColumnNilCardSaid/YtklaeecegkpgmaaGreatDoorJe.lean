import Derived.Test.YtklaeecegkpgmaaGreatDoorJa
/- A region that draws its order: pure operations first; where two others come up at once, both ways. -/
namespace Go.Proofs.YtklaeecegkpgmaaGreatDoor
open Go.RowKit
set_option linter.unusedVariables false
/-- How a region is walked. -/
inductive PlanT where
  | done (last : List Nat)
  | one (seg : List Nat) (i : Nat) (r : PlanT)
  | two (seg : List Nat) (i : Nat) (r : PlanT) (j : Nat) (s : PlanT)
section
variable {P : Program} {md : Region.Mode} {S : World → Prop} {Q : Exit → Act → World → Prop}
def wpMixT (P : Program) (l : List Oper) (S : World → Prop) (Q : Exit → Act → World → Prop) (T : Act → World → Prop) : PlanT → Act → World → Prop
  | .done last, a, w => wpQuiet P l.toArray S (fun a' => T a' w) (pk l last) a
  | .one seg i r, a, w => wpQuiet P l.toArray S (fun a' => wpList P l.toArray (thenQ Q fun a'' w'' => S w'' ∧ wpMixT P l S Q T r a'' w'') (pk l [i]) a' w) (pk l seg) a
  | .two seg i r j s, a, w => wpQuiet P l.toArray S (fun a' => wpList P l.toArray (thenQ Q fun a'' w'' => S w'' ∧ wpMixT P l S Q T r a'' w'') (pk l [i]) a' w ∧ wpList P l.toArray (thenQ Q fun a'' w'' => S w'' ∧ wpMixT P l S Q T s a'' w'') (pk l [j]) a' w) (pk l seg) a
def cntT : PlanT → Nat
  | .done last => last.length
  | .one seg _ r => seg.length + 1 + cntT r
  | .two seg _ r _ _ => seg.length + 1 + cntT r
def mixTB (md : Region.Mode) (l : List Oper) (n : Nat) : PlanT → Array Bool → Bool
  | .done last, listed => match segB md l n last listed with
    | none => false
    | some l' => Region.seqB md l.toArray (l.length - n) n l'
  | .one seg i r, listed => match segB md l n seg listed with
    | none => false
    | some l' => decide (Region.ready md l.toArray l' = [i]) && decide (i < n) && mixTB md l n r (l'.setIfInBounds i true)
  | .two seg i r j s, listed => match segB md l n seg listed with
    | none => false
    | some l' => decide (Region.ready md l.toArray l' = [i, j]) && decide (i < n) && decide (j < n) && decide (cntT r = cntT s) && mixTB md l n r (l'.setIfInBounds i true) && mixTB md l n s (l'.setIfInBounds j true)
def mixTAll (l : List Oper) (n : Nat) (plan : PlanT) : Bool :=
  Region.noSelect l.toArray && (decide (n = l.length) || (decide (n < l.length) && Region.sinkB .any l.toArray n && Region.chainB .any l.toArray n)) && decide (cntT plan = n) && mixTB .any l n plan (Array.replicate l.length false)

theorem mixT_headM {l : List Oper} {n : Nat} (hsel : Region.noSelect l.toArray = true) (hQ : ∀ c d v a w, Q (.panic c) (Act.put a d v) w → Q (.panic c) a w)
    (htw : ∀ listed, HeadInv md l.toArray n listed → ∀ i, i < n → listed.getD i true = false → ∀ t, n ≤ t → t ∉ Region.ready md l.toArray listed) :
    ∀ (plan : PlanT) (listed : Array Bool) (a : Act) (w : World), HeadInv md l.toArray n listed → mixTB md l n plan listed = true → S w →
      wpMixT P l S Q (fun a w => wpList P l.toArray Q (l.drop n) a w) plan a w →
      headM P md l.toArray S Q n (fun listed a w => Region.seqB md l.toArray (l.length - n) n listed = true ∧ wpList P l.toArray Q (l.drop n) a w) (cntT plan) listed a w
  | .done last, listed, a, w, inv, hB, hS, h => by
    unfold mixTB at hB
    split at hB
    · cases hB
    · rename_i l' hl'
      have := seg_headM (P := P) (S := S) (Q := Q) (L := fun listed a w => Region.seqB md l.toArray (l.length - n) n listed = true ∧ wpList P l.toArray Q (l.drop n) a w) hsel hQ htw (fun listed a w h => seqB_ready h.1) last listed l' 0 _ a w inv hl' hS h (fun _ a' h' => ⟨hB, h'⟩)
      simpa [cntT] using this
  | .one seg i r, listed, a, w, inv, hB, hS, h => by
    unfold mixTB at hB
    split at hB
    · cases hB
    · rename_i l' hl'
      simp only [Bool.and_eq_true, decide_eq_true_eq] at hB
      obtain ⟨⟨hr, hin⟩, hB⟩ := hB
      have := seg_headM (P := P) (S := S) (Q := Q) (L := fun listed a w => Region.seqB md l.toArray (l.length - n) n listed = true ∧ wpList P l.toArray Q (l.drop n) a w) hsel hQ htw (fun listed a w h => seqB_ready h.1) seg listed l' (1 + cntT r) _ a w inv hl' hS h (fun inv' a' h' => by
        rw [Nat.add_comm 1]
        refine ⟨by rw [hr]; simp, fun j hj => ?_⟩
        have hj0 := hj
        rw [hr] at hj
        have hji : j = i := by simpa using hj
        subst hji
        refine ⟨hin, ?_⟩
        obtain ⟨_, oj, hoj, _⟩ := mem_ready.1 hj0
        have e : pk l [j] = [oj] := by
          have : l[j]? = some oj := by simpa using hoj
          rw [pk_cons, pushAt_eq _ _ _ this]; rfl
        rw [e] at h'
        exact wpOp_mono (fun a'' w'' h3 => ⟨h3.1, mixT_headM hsel hQ htw r _ a'' w'' (inv'.set hj0 hin) hB h3.1 h3.2⟩) (wpOp_of_list hoj h'))
      simp only [cntT]
      rwa [show seg.length + 1 + cntT r = seg.length + (1 + cntT r) by omega]
  | .two seg i r j s, listed, a, w, inv, hB, hS, h => by
    unfold mixTB at hB
    split at hB
    · cases hB
    · rename_i l' hl'
      simp only [Bool.and_eq_true, decide_eq_true_eq] at hB
      obtain ⟨⟨⟨⟨⟨hr, hin⟩, hjn⟩, hc⟩, hB⟩, hB2⟩ := hB
      have := seg_headM (P := P) (S := S) (Q := Q) (L := fun listed a w => Region.seqB md l.toArray (l.length - n) n listed = true ∧ wpList P l.toArray Q (l.drop n) a w) hsel hQ htw (fun listed a w h => seqB_ready h.1) seg listed l' (1 + cntT r) _ a w inv hl' hS h (fun inv' a' h' => by
        rw [Nat.add_comm 1]
        refine ⟨by rw [hr]; simp, fun t ht => ?_⟩
        have ht0 := ht
        rw [hr] at ht
        obtain ⟨_, ot, hot, _⟩ := mem_ready.1 ht0
        have e : pk l [t] = [ot] := by
          have : l[t]? = some ot := by simpa using hot
          rw [pk_cons, pushAt_eq _ _ _ this]; rfl
        have hti : t = i ∨ t = j := by simpa using ht
        rcases hti with rfl | rfl
        · refine ⟨hin, ?_⟩
          have h1 := h'.1
          rw [e] at h1
          exact wpOp_mono (fun a'' w'' h3 => ⟨h3.1, mixT_headM hsel hQ htw r _ a'' w'' (inv'.set ht0 hin) hB h3.1 h3.2⟩) (wpOp_of_list hot h1)
        · refine ⟨hjn, ?_⟩
          have h1 := h'.2
          rw [e] at h1
          rw [hc]
          exact wpOp_mono (fun a'' w'' h3 => ⟨h3.1, mixT_headM hsel hQ htw s _ a'' w'' (inv'.set ht0 hjn) hB2 h3.1 h3.2⟩) (wpOp_of_list hot h1))
      simp only [cntT]
      rwa [show seg.length + 1 + cntT r = seg.length + (1 + cntT r) by omega]
end
theorem wp_region_mixT {P : Program} {id : Nat} {Q : Exit → Act → World → Prop} {a : Act} {w : World} {l : List Oper} (N n : Nat) (plan : PlanT) (hm : P.follows .mixedOrders = true) (hQ : ∀ c d v a w, Q (.panic c) (Act.put a d v) w → Q (.panic c) a w)
    (hB : mixTAll l n plan = true)
    (h : wpMixT P l (fun w' => ∃ x : UpW N w, w' = x.w) Q (fun a w1 => wpList P l.toArray Q (l.drop n) a w1) plan a w.drew) : (Code.region id l.toArray true).wp P Q a w := by
  simp only [mixTAll, Bool.and_eq_true, Bool.or_eq_true, decide_eq_true_eq] at hB
  obtain ⟨⟨⟨hsel, hn⟩, hcnt⟩, hmix⟩ := hB
  have hnl : n ≤ l.length := by rcases hn with h | h <;> omega
  have inv0 : HeadInv .any l.toArray n (Array.replicate l.length false) :=
    ⟨by simp, fun j oj _ hl => (by rw [getD_replicate_false] at hl; cases hl), fun t _ ht => getD_in (by simpa using ht) (getD_replicate_false _ _)⟩
  have htw : ∀ listed, HeadInv .any l.toArray n listed → ∀ i, i < n → listed.getD i true = false → ∀ t, n ≤ t → t ∉ Region.ready .any l.toArray listed := fun listed inv i hi hun t ht hr => by
    rcases hn with hn | ⟨⟨hn, hs⟩, hc⟩
    · obtain ⟨_, ot, hot, _⟩ := mem_ready.1 hr
      have := (Array.getElem?_eq_some_iff.1 hot).1
      simp at this
      omega
    · exact tail_waits hs hc (by simpa using hn) inv _ i rfl hi hun t ht hr
  have H := mixT_headM (md := .any) hsel hQ htw plan _ a w.drew inv0 hmix ⟨⟨w.drew, (Below.refl N w).drew⟩, rfl⟩ h
  refine wp_region_any hm ?_
  have key := any_of_headM (Q := Q) (g := l.length - n) (fun listed a' w' hL => by
    have := wpAny_of_seq (md := .any) (Q' := Q) (l.drop n) n listed a' w' (fun j => by simp [List.getElem?_drop]) (by rw [List.length_drop]; exact hL.1) hL.2
    rwa [List.length_drop] at this) _ _ _ _ H
  rw [hcnt, show n + (l.length - n) = l.toArray.size by simp; omega] at key
  simpa using key
/-- A world in which nothing old has turned but blocks in T. -/
structure OnW (T : Nat → Prop) (w0 : World) where
  w : World
  on : Only T w0 w
instance OnW.some (T : Nat → Prop) (w0 : World) : Nonempty (OnW T w0) := ⟨⟨w0, Only.refl T w0⟩⟩
/-- The same, for a region whose operations may turn blocks in T. -/
theorem wp_region_mixO {P : Program} {id : Nat} {Q : Exit → Act → World → Prop} {a : Act} {w : World} {l : List Oper} (T : Nat → Prop) (n : Nat) (plan : PlanT) (hm : P.follows .mixedOrders = true) (hQ : ∀ c d v a w, Q (.panic c) (Act.put a d v) w → Q (.panic c) a w)
    (hB : mixTAll l n plan = true)
    (h : wpMixT P l (fun w' => ∃ x : OnW T w, w' = x.w) Q (fun a w1 => wpList P l.toArray Q (l.drop n) a w1) plan a w.drew) : (Code.region id l.toArray true).wp P Q a w := by
  simp only [mixTAll, Bool.and_eq_true, Bool.or_eq_true, decide_eq_true_eq] at hB
  obtain ⟨⟨⟨hsel, hn⟩, hcnt⟩, hmix⟩ := hB
  have hnl : n ≤ l.length := by rcases hn with h | h <;> omega
  have inv0 : HeadInv .any l.toArray n (Array.replicate l.length false) :=
    ⟨by simp, fun j oj _ hl => (by rw [getD_replicate_false] at hl; cases hl), fun t _ ht => getD_in (by simpa using ht) (getD_replicate_false _ _)⟩
  have htw : ∀ listed, HeadInv .any l.toArray n listed → ∀ i, i < n → listed.getD i true = false → ∀ t, n ≤ t → t ∉ Region.ready .any l.toArray listed := fun listed inv i hi hun t ht hr => by
    rcases hn with hn | ⟨⟨hn, hs⟩, hc⟩
    · obtain ⟨_, ot, hot, _⟩ := mem_ready.1 hr
      have := (Array.getElem?_eq_some_iff.1 hot).1
      simp at this
      omega
    · exact tail_waits hs hc (by simpa using hn) inv _ i rfl hi hun t ht hr
  have H := mixT_headM (md := .any) hsel hQ htw plan _ a w.drew inv0 hmix ⟨⟨w.drew, (Only.refl T w).drew⟩, rfl⟩ h
  refine wp_region_any hm ?_
  have key := any_of_headM (Q := Q) (g := l.length - n) (fun listed a' w' hL => by
    have := wpAny_of_seq (md := .any) (Q' := Q) (l.drop n) n listed a' w' (fun j => by simp [List.getElem?_drop]) (by rw [List.length_drop]; exact hL.1) hL.2
    rwa [List.length_drop] at this) _ _ _ _ H
  rw [hcnt, show n + (l.length - n) = l.toArray.size by simp; omega] at key
  simpa using key
end Go.Proofs.YtklaeecegkpgmaaGreatDoor
/- A region that draws its order, loads at first and stores at last to what it has loaded: pure operations first; the stores wait for the loads. -/
namespace Go.Proofs.YtklaeecegkpgmaaGreatDoor
open Go.RowKit
set_option linter.unusedVariables false
inductive PlanS where
  | done (last : List (Nat × Bool))
  | one (seg : List (Nat × Bool)) (i : Nat) (r : PlanS)
section
variable {P : Program} {md : Region.Mode} {ops : Array Oper} {S : Array Bool → World → Prop} {Q : Exit → Act → World → Prop}
def headS (P : Program) (md : Region.Mode) (ops : Array Oper) (S : Array Bool → World → Prop) (Q : Exit → Act → World → Prop) : Nat → Array Bool → Act → World → Prop
  | 0, listed, a, w => Region.ready md ops listed = [] ∧ Q .normal a w
  | f + 1, listed, a, w => Region.ready md ops listed ≠ [] ∧ ∀ i ∈ Region.ready md ops listed, wpOp P ops Q i (fun a' w' => S (listed.setIfInBounds i true) w' ∧ headS P md ops S Q f (listed.setIfInBounds i true) a' w') a w
theorem any_of_headS : ∀ (f : Nat) (listed : Array Bool) (a : Act) (w : World), headS P md ops S Q f listed a w → wpAny P md ops Q f listed a w
  | 0, listed, a, w, h => ⟨h.1, h.2⟩
  | f + 1, listed, a, w, h => ⟨fun h0 => absurd h0 h.1, fun i hi => wpOp_mono (fun a' w' h' => any_of_headS f _ a' w' h'.2) (h.2 i hi)⟩
theorem headS_first {i : Nat} {oi : Oper} {v : Value} {C : World → Prop} (hi : ops[i]? = some oi) (hsel : ∀ (j : Nat) (o : Oper) cs b, ops[j]? = some o → o.op ≠ .select cs b)
    (hQ : ∀ c a w, Q (.panic c) (a.put oi.dst v) w → Q (.panic c) a w) (hSi : ∀ listed w, S (listed.setIfInBounds i true) w ↔ S listed w)
    (hC : ∀ listed w, HeadInv md ops ops.size listed → listed.getD i true = false → S listed w → C w) :
    ∀ (f : Nat) (listed : Array Bool) (a : Act) (w : World), HeadInv md ops ops.size listed →
      (∀ j oj, ops[j]? = some oj → j ≠ i → listed.getD j true = false → (∀ e ∈ oj.after, Region.binds md e = true → e.on ≠ i) → oi.apart ops oj = true) →
      i ∈ Region.ready md ops listed → YieldsIf P ops C oi v a → S listed w → headS P md ops S Q f (listed.setIfInBounds i true) (a.put oi.dst v) w → headS P md ops S Q (f + 1) listed a w := by
  intro f
  induction f with
  | zero =>
    intro listed a w inv _ hr hy hS H
    have hun := (mem_ready.1 hr).1
    refine ⟨fun h => (by rw [h] at hr; cases hr), fun j hj => ?_⟩
    by_cases hji : j = i
    · subst hji; exact hy.wpOp hi (hC _ _ inv hun hS) ⟨(hSi _ _).2 hS, H⟩
    · have := ready_mono hj hji
      rw [H.1] at this
      cases this
  | succ f ih =>
    intro listed a w inv hfree hr hy hS H
    have hun := (mem_ready.1 hr).1
    refine ⟨fun h => (by rw [h] at hr; cases hr), fun j hj => ?_⟩
    by_cases hji : j = i
    · subst hji; exact hy.wpOp hi (hC _ _ inv hun hS) ⟨(hSi _ _).2 hS, H⟩
    · have h1 := H.2 j (ready_mono hj hji)
      obtain ⟨hjun, oj, hoj, hall⟩ := mem_ready.1 hj
      have hjn : j < ops.size := (Array.getElem?_eq_some_iff.1 hoj).1
      have hnot : ∀ e ∈ oj.after, Region.binds md e = true → e.on ≠ i := fun e he hb heq => by
        have h1 := hall e he hb
        rw [heq, getD_both hun] at h1
        cases h1
      have h2 := wpOp_putIf hoj (hfree j oj hoj hji hjun hnot) (fun cs b => hsel i oi cs b hi) (fun cs b => hsel j oj cs b hoj) hQ hy h1
      refine wpOp_mono (fun a' w' h3 => ?_) h2
      obtain ⟨h3y, h3s, h3h⟩ := h3
      rw [Array.setIfInBounds_comm _ _ (Ne.symm hji)] at h3s h3h
      have hs' := (hSi _ _).1 h3s
      refine ⟨hs', ih (listed.setIfInBounds j true) a' w' (inv.set hj hjn) (fun k ok hk hki hun' hno => hfree k ok hk hki ?_ hno) (ready_mono hr (Ne.symm hji)) h3y hs' h3h⟩
      by_cases hjk : j = k
      · subst hjk; exact hjun
      · rw [getD_set_ne true hjk] at hun'; exact hun'
/-! ### two classes of worlds: S0 till the first late operation, S1 behind -/
variable {S0 S1 : World → Prop} {late : List Nat}
def SS (S0 S1 : World → Prop) (late : List Nat) (listed : Array Bool) (w : World) : Prop := S1 w ∧ ((∀ k ∈ late, listed.getD k true = false) → S0 w)
def wpQ2 (P : Program) (l : List Oper) (S0 S1 : World → Prop) (K : Act → Prop) : List (Nat × Bool) → Act → Prop
  | [], a => K a
  | (i, true) :: r, a => wpQuiet P l.toArray S0 (fun a' => wpQ2 P l S0 S1 K r a') (pk l [i]) a
  | (i, false) :: r, a => wpQuiet P l.toArray S1 (fun a' => wpQ2 P l S0 S1 K r a') (pk l [i]) a
def wpMixS (P : Program) (l : List Oper) (S0 S1 : World → Prop) (late : List Nat) (Q : Exit → Act → World → Prop) : PlanS → Bool → Act → World → Prop
  | .done last, st, a, w => wpQ2 P l S0 S1 (fun a' => Q .normal a' w) last a
  | .one seg i r, st, a, w => wpQ2 P l S0 S1 (fun a' => wpList P l.toArray (thenQ Q fun a'' w'' => (match (st || late.contains i) with | true => S1 w'' | false => S0 w'') ∧ wpMixS P l S0 S1 late Q r (st || late.contains i) a'' w'') (pk l [i]) a' w) seg a
def earlyB (md : Region.Mode) (l : List Oper) (late : List Nat) (i : Nat) : Bool := late.all fun k => match l[k]? with
  | some o => o.after.any fun e => Region.binds md e && (e.on == i)
  | none => false
def segSB (md : Region.Mode) (l : List Oper) (late : List Nat) : List (Nat × Bool) → Array Bool → Option (Array Bool)
  | [], listed => some listed
  | (i, b) :: r, listed => if ((l[i]?).map pureOp).getD false && (Region.ready md l.toArray listed).contains i && Region.free md l.toArray listed i && !late.contains i && (!b || earlyB md l late i) then segSB md l late r (listed.setIfInBounds i true) else none
def cntS : PlanS → Nat
  | .done last => last.length
  | .one seg _ r => seg.length + 1 + cntS r
def mixSB (md : Region.Mode) (l : List Oper) (late : List Nat) : PlanS → Array Bool → Bool
  | .done last, listed => match segSB md l late last listed with
    | none => false
    | some l' => decide (Region.ready md l.toArray l' = [])
  | .one seg i r, listed => match segSB md l late seg listed with
    | none => false
    | some l' => decide (Region.ready md l.toArray l' = [i]) && mixSB md l late r (l'.setIfInBounds i true)
def mixSAll (l : List Oper) (late : List Nat) (plan : PlanS) : Bool := Region.noSelect l.toArray && decide (cntS plan = l.length) && mixSB .any l late plan (Array.replicate l.length false)
theorem segS_headS {l : List Oper} (hsel : Region.noSelect l.toArray = true) (hQ : ∀ c d v a w, Q (.panic c) (Act.put a d v) w → Q (.panic c) a w) (h01 : ∀ w, S0 w → S1 w) :
    ∀ (seg : List (Nat × Bool)) (listed l' : Array Bool) (f : Nat) (K : Act → Prop) (a : Act) (w : World), HeadInv md l.toArray l.toArray.size listed → segSB md l late seg listed = some l' → SS S0 S1 late listed w → wpQ2 P l S0 S1 K seg a →
      (HeadInv md l.toArray l.toArray.size l' → SS S0 S1 late l' w → (∀ k ∈ late, l'.getD k true = listed.getD k true) → ∀ a', K a' → headS P md l.toArray (SS S0 S1 late) Q f l' a' w) → headS P md l.toArray (SS S0 S1 late) Q (seg.length + f) listed a w
  | [], listed, l', f, K, a, w, inv, hB, hS, h, hK => by
    simp only [segSB, Option.some.injEq] at hB
    subst hB
    rw [List.length_nil, Nat.zero_add]
    exact hK inv hS (fun _ _ => rfl) a h
  | (i, b) :: seg, listed, l', f, K, a, w, inv, hB, hS, h, hK => by
    unfold segSB at hB
    split at hB
    · rename_i hc
      simp only [Bool.and_eq_true, Bool.or_eq_true, Bool.not_eq_true'] at hc
      obtain ⟨⟨⟨⟨hp, hr⟩, hf⟩, hnl⟩, hb⟩ := hc
      cases ho : l[i]? with
      | none => rw [ho] at hp; simp at hp
      | some o =>
        rw [ho] at hp
        have hp' : pureOp o = true := by simpa using hp
        have ho' : l.toArray[i]? = some o := by simpa using ho
        have hin : i < l.toArray.size := (Array.getElem?_eq_some_iff.1 ho').1
        have hr' : i ∈ Region.ready md l.toArray listed := by simpa using hr
        have hni : i ∉ late := by simpa using hnl
        have e : pk l [i] = [o] := by rw [pk_cons, pushAt_eq _ _ _ ho]; rfl
        have hSi : ∀ (ls : Array Bool) (w : World), SS S0 S1 late (ls.setIfInBounds i true) w ↔ SS S0 S1 late ls w := fun ls w => by
          have hk : ∀ k ∈ late, (ls.setIfInBounds i true).getD k true = ls.getD k true := fun k hk => getD_set_ne true (fun e => hni (e ▸ hk))
          unfold SS
          constructor
          · rintro ⟨h1, h2⟩
            exact ⟨h1, fun h3 => h2 fun k hk' => by rw [hk k hk']; exact h3 k hk'⟩
          · rintro ⟨h1, h2⟩
            exact ⟨h1, fun h3 => h2 fun k hk' => by rw [← hk k hk']; exact h3 k hk'⟩
        have hlk : ∀ k ∈ late, (listed.setIfInBounds i true).getD k true = listed.getD k true := fun k hk => getD_set_ne true (fun e => hni (e ▸ hk))
        obtain ⟨C, hC, hst⟩ : ∃ C : World → Prop, (∀ (ls : Array Bool) (w : World), HeadInv md l.toArray l.toArray.size ls → ls.getD i true = false → SS S0 S1 late ls w → C w) ∧ qOp P l.toArray C i (wpQ2 P l S0 S1 K seg) a := by
          cases b with
          | false =>
            refine ⟨S1, fun ls w _ _ h => h.1, ?_⟩
            unfold wpQ2 at h
            rw [e] at h
            unfold qOp
            simp only [ho']
            exact h
          | true =>
            have he : earlyB md l late i = true := by simpa using hb
            refine ⟨S0, fun ls w inv' hun h => h.2 fun k hk => ?_, ?_⟩
            · unfold earlyB at he
              have hek := List.all_eq_true.1 he k hk
              cases hok : l[k]? with
              | none => rw [hok] at hek; cases hek
              | some ok =>
                rw [hok] at hek
                simp only [Array.any_eq_true, Bool.and_eq_true, beq_iff_eq] at hek
                obtain ⟨q, hq, hb1, hb2⟩ := hek
                cases hg : ls.getD k true with
                | false => rfl
                | true =>
                  have hks : k < ls.size := by
                    rw [inv'.size]
                    exact (Array.getElem?_eq_some_iff.1 (show l.toArray[k]? = some ok by simpa using hok)).1
                  have hg2 : ls.getD k false = true := by
                    simp only [Array.getD, hks, dif_pos] at hg ⊢
                    exact hg
                  have := inv'.closed k ok (by simpa using hok) hg2 _ (Array.getElem_mem hq) hb1
                  rw [hb2, getD_both hun] at this
                  cases this
            · unfold wpQ2 at h
              rw [e] at h
              unfold qOp
              simp only [ho']
              exact h
        obtain ⟨v, hy, hk⟩ := yieldsIn_of_qOp ho' hst
        rw [List.length_cons, show seg.length + 1 + f = (seg.length + f) + 1 by omega]
        exact headS_first ho' (Region.noSelect_spec hsel) (fun c a w h => hQ c _ _ a w h) hSi hC _ listed a w inv (Region.free_spec ho' hf) hr' (yieldsIf_of_in hp' hy) hS
          (segS_headS hsel hQ h01 seg _ l' f K _ w (inv.set hr' hin) hB ((hSi _ _).2 hS) hk (fun i1 s1 e1 => hK i1 s1 (fun k hk => (e1 k hk).trans (hlk k hk))))
    · cases hB
theorem mixS_headS {l : List Oper} (hsel : Region.noSelect l.toArray = true) (hQ : ∀ c d v a w, Q (.panic c) (Act.put a d v) w → Q (.panic c) a w) (h01 : ∀ w, S0 w → S1 w) :
    ∀ (plan : PlanS) (st : Bool) (listed : Array Bool) (a : Act) (w : World), HeadInv md l.toArray l.toArray.size listed → (st = true → ∃ k ∈ late, listed.getD k true = true) → mixSB md l late plan listed = true → SS S0 S1 late listed w →
      wpMixS P l S0 S1 late Q plan st a w → headS P md l.toArray (SS S0 S1 late) Q (cntS plan) listed a w
  | .done last, st, listed, a, w, inv, hst, hB, hS, h => by
    unfold mixSB at hB
    split at hB
    · cases hB
    · rename_i l' hl'
      have := segS_headS (P := P) (Q := Q) hsel hQ h01 last listed l' 0 _ a w inv hl' hS h (fun _ _ _ a' h' => ⟨by simpa using hB, h'⟩)
      simpa [cntS] using this
  | .one seg i r, st, listed, a, w, inv, hst, hB, hS, h => by
    unfold mixSB at hB
    split at hB
    · cases hB
    · rename_i l' hl'
      simp only [Bool.and_eq_true, decide_eq_true_eq] at hB
      obtain ⟨hr, hB⟩ := hB
      have := segS_headS (P := P) (Q := Q) hsel hQ h01 seg listed l' (1 + cntS r) _ a w inv hl' hS h (fun inv' hS' hk' a' h' => by
        rw [Nat.add_comm 1]
        refine ⟨by rw [hr]; simp, fun j hj => ?_⟩
        have hj0 := hj
        rw [hr] at hj
        have hji : j = i := by simpa using hj
        subst hji
        obtain ⟨_, oj, hoj, _⟩ := mem_ready.1 hj0
        have hjn : j < l.toArray.size := (Array.getElem?_eq_some_iff.1 hoj).1
        have e : pk l [j] = [oj] := by
          have : l[j]? = some oj := by simpa using hoj
          rw [pk_cons, pushAt_eq _ _ _ this]; rfl
        rw [e] at h'
        have hst2 : (st || late.contains j) = true → ∃ k ∈ late, (l'.setIfInBounds j true).getD k true = true := fun hb => by
          by_cases hjl : j ∈ late
          · refine ⟨j, hjl, ?_⟩
            simp [Array.getD]
          · have hs : st = true := by simpa [hjl] using hb
            obtain ⟨k, hk, hk2⟩ := hst hs
            have hjk : j ≠ k := fun e' => hjl (by rw [e']; exact hk)
            exact ⟨k, hk, by rw [getD_set_ne true hjk, hk' k hk, hk2]⟩
        refine wpOp_mono (fun a'' w'' h3 => ?_) (wpOp_of_list hoj h')
        obtain ⟨h3a, h3b⟩ := h3
        have hSS : SS S0 S1 late (l'.setIfInBounds j true) w'' := by
          cases hb : (st || late.contains j) with
          | true =>
            rw [hb] at h3a
            refine ⟨h3a, fun hall => ?_⟩
            obtain ⟨k, hk, hk2⟩ := hst2 hb
            rw [hall k hk] at hk2
            cases hk2
          | false =>
            rw [hb] at h3a
            exact ⟨h01 _ h3a, fun _ => h3a⟩
        exact ⟨hSS, mixS_headS hsel hQ h01 r _ _ a'' w'' (inv'.set hj0 hjn) hst2 hB hSS h3b⟩)
      simp only [cntS]
      rwa [show seg.length + 1 + cntS r = seg.length + (1 + cntS r) by omega]
end
theorem wp_region_mixS {P : Program} {id : Nat} {Q : Exit → Act → World → Prop} {a : Act} {w : World} {l : List Oper} (T : Nat → Prop) (late : List Nat) (plan : PlanS) (hm : P.follows .mixedOrders = true) (hQ : ∀ c d v a w, Q (.panic c) (Act.put a d v) w → Q (.panic c) a w)
    (hB : mixSAll l late plan = true)
    (h : wpMixS P l (fun w' => ∃ x : UpW w.heap.size w, w' = x.w) (fun w' => ∃ x : OnW T w, w' = x.w) late Q plan false a w.drew) : (Code.region id l.toArray true).wp P Q a w := by
  simp only [mixSAll, Bool.and_eq_true, decide_eq_true_eq] at hB
  obtain ⟨⟨hsel, hcnt⟩, hmix⟩ := hB
  have inv0 : HeadInv .any l.toArray l.toArray.size (Array.replicate l.length false) :=
    ⟨by simp, fun j oj _ hl => (by rw [getD_replicate_false] at hl; cases hl), fun t h1 h2 => by omega⟩
  have h01 : ∀ w', (∃ x : UpW w.heap.size w, w' = x.w) → ∃ x : OnW T w, w' = x.w := fun w' ⟨x, hx⟩ => ⟨⟨x.w, Only.of_below x.up⟩, hx⟩
  have hu0 : ∃ x : UpW w.heap.size w, w.drew = x.w := ⟨⟨w.drew, (Below.refl _ w).drew⟩, rfl⟩
  have H := mixS_headS (md := .any) hsel hQ h01 plan false _ a w.drew inv0 (fun h => by cases h) hmix ⟨h01 _ hu0, fun _ => hu0⟩ h
  refine wp_region_any hm ?_
  have key := any_of_headS _ _ _ _ H
  rw [hcnt] at key
  simpa using key
/-- The same, where blocks in T0 may turn from the first. -/
theorem wp_region_mixS2 {P : Program} {id : Nat} {Q : Exit → Act → World → Prop} {a : Act} {w : World} {l : List Oper} (T0 T : Nat → Prop) (hT : ∀ k, T0 k → T k) (late : List Nat) (plan : PlanS) (hm : P.follows .mixedOrders = true) (hQ : ∀ c d v a w, Q (.panic c) (Act.put a d v) w → Q (.panic c) a w)
    (hB : mixSAll l late plan = true)
    (h : wpMixS P l (fun w' => ∃ x : OnW T0 w, w' = x.w) (fun w' => ∃ x : OnW T w, w' = x.w) late Q plan false a w.drew) : (Code.region id l.toArray true).wp P Q a w := by
  simp only [mixSAll, Bool.and_eq_true, decide_eq_true_eq] at hB
  obtain ⟨⟨hsel, hcnt⟩, hmix⟩ := hB
  have inv0 : HeadInv .any l.toArray l.toArray.size (Array.replicate l.length false) :=
    ⟨by simp, fun j oj _ hl => (by rw [getD_replicate_false] at hl; cases hl), fun t h1 h2 => by omega⟩
  have h01 : ∀ w', (∃ x : OnW T0 w, w' = x.w) → ∃ x : OnW T w, w' = x.w := fun w' ⟨x, hx⟩ => ⟨⟨x.w, x.on.mono hT⟩, hx⟩
  have hu0 : ∃ x : OnW T0 w, w.drew = x.w := ⟨⟨w.drew, (Only.refl _ w).drew⟩, rfl⟩
  have H := mixS_headS (md := .any) hsel hQ h01 plan false _ a w.drew inv0 (fun h => by cases h) hmix ⟨h01 _ hu0, fun _ => hu0⟩ h
  refine wp_region_any hm ?_
  have key := any_of_headS _ _ _ _ H
  rw [hcnt] at key
  simpa using key
end Go.Proofs.YtklaeecegkpgmaaGreatDoor
