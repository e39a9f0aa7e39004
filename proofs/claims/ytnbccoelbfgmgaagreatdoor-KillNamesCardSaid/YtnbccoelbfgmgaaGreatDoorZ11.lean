import Derived.Test.YtnbccoelbfgmgaaGreatDoorZ02
import Derived.Test.YtnbccoelbfgmgaaGreatDoorZ10
import Derived.Test.YtnbccoelbfgmgaaGreatDoorZ07
/- A region that draws its order, loads at first and stores at last to what it has loaded: pure operations first; the stores wait for the loads. -/
namespace Go.Proofs.YtnbccoelbfgmgaaGreatDoor
open Go.RowKit
set_option linter.unusedVariables false
inductive PlanS where
  | done (last : List (Nat × Bool))
  | one (seg : List (Nat × Bool)) (i : Nat) (r : PlanS)
section
variable {P : Program} {md : Region.Mode} {ops : Array Oper} {S : Array Bool → World → Prop} {Q : Exit → Act → World → Prop}
def headS (P : Program) (md : Region.Mode) (ops : Array Oper) (S : Array Bool → World → Prop) (Q : Exit → Act → World → Prop) : Nat → Array Bool → Act → World → Prop
  | 0, listed, a, w => Region.ready md ops listed = [] ∧ Q .normal a w
  | f + 1, listed, a, w => Region.ready md ops listed ≠ [] ∧ ∀ i ∈ Region.ready md ops listed, wpOp P ops Q i (fun a' w' => S (listed.setIfInBounds i true) w' ∧ headS P md ops S Q f (listed.setIfInBounds i true) a' w') a w
theorem any_of_headS : ∀ (f : Nat) (listed : Array Bool) (a : Act) (w : World), headS P md ops S Q f listed a w → wpAny P md ops Q f listed a w
  | 0, listed, a, w, h => ⟨h.1, h.2⟩
  | f + 1, listed, a, w, h => ⟨fun h0 => absurd h0 h.1, fun i hi => wpOp_mono (fun a' w' h' => any_of_headS f _ a' w' h'.2) (h.2 i hi)⟩
theorem headS_first {i : Nat} {oi : Oper} {v : Value} {C : World → Prop} (hi : ops[i]? = some oi) (hsel : ∀ (j : Nat) (o : Oper) cs b, ops[j]? = some o → o.op ≠ .select cs b)
    (hQ : ∀ c a w, Q (.panic c) (a.put oi.dst v) w → Q (.panic c) a w) (hSi : ∀ listed w, S (listed.setIfInBounds i true) w ↔ S listed w)
    (hC : ∀ listed w, HeadInv md ops ops.size listed → listed.getD i true = false → S listed w → C w) :
    ∀ (f : Nat) (listed : Array Bool) (a : Act) (w : World), HeadInv md ops ops.size listed →
      (∀ j oj, ops[j]? = some oj → j ≠ i → listed.getD j true = false → (∀ e ∈ oj.after, Region.binds md e = true → e.on ≠ i) → oi.apart ops oj = true) →
      i ∈ Region.ready md ops listed → YieldsIf P ops C oi v a → S listed w → headS P md ops S Q f (listed.setIfInBounds i true) (a.put oi.dst v) w → headS P md ops S Q (f + 1) listed a w := by
  intro f
  induction f with
  | zero =>
    intro listed a w inv _ hr hy hS H
    have hun := (mem_ready.1 hr).1
    refine ⟨fun h => (by rw [h] at hr; cases hr), fun j hj => ?_⟩
    by_cases hji : j = i
    · subst hji; exact hy.wpOp hi (hC _ _ inv hun hS) ⟨(hSi _ _).2 hS, H⟩
    · have := ready_mono hj hji
      rw [H.1] at this
      cases this
  | succ f ih =>
    intro listed a w inv hfree hr hy hS H
    have hun := (mem_ready.1 hr).1
    refine ⟨fun h => (by rw [h] at hr; cases hr), fun j hj => ?_⟩
    by_cases hji : j = i
    · subst hji; exact hy.wpOp hi (hC _ _ inv hun hS) ⟨(hSi _ _).2 hS, H⟩
    · have h1 := H.2 j (ready_mono hj hji)
      obtain ⟨hjun, oj, hoj, hall⟩ := mem_ready.1 hj
      have hjn : j < ops.size := (Array.getElem?_eq_some_iff.1 hoj).1
      have hnot : ∀ e ∈ oj.after, Region.binds md e = true → e.on ≠ i := fun e he hb heq => by
        have h1 := hall e he hb
        rw [heq, getD_both hun] at h1
        cases h1
      have h2 := wpOp_putIf hoj (hfree j oj hoj hji hjun hnot) (fun cs b => hsel i oi cs b hi) (fun cs b => hsel j oj cs b hoj) hQ hy h1
      refine wpOp_mono (fun a' w' h3 => ?_) h2
      obtain ⟨h3y, h3s, h3h⟩ := h3
      rw [Array.setIfInBounds_comm _ _ (Ne.symm hji)] at h3s h3h
      have hs' := (hSi _ _).1 h3s
      refine ⟨hs', ih (listed.setIfInBounds j true) a' w' (inv.set hj hjn) (fun k ok hk hki hun' hno => hfree k ok hk hki ?_ hno) (ready_mono hr (Ne.symm hji)) h3y hs' h3h⟩
      by_cases hjk : j = k
      · subst hjk; exact hjun
      · rw [getD_set_ne true hjk] at hun'; exact hun'
/-! ### two classes of worlds: S0 till the first late operation, S1 behind -/
variable {S0 S1 : World → Prop} {late : List Nat}
def SS (S0 S1 : World → Prop) (late : List Nat) (listed : Array Bool) (w : World) : Prop := S1 w ∧ ((∀ k ∈ late, listed.getD k true = false) → S0 w)
def wpQ2 (P : Program) (l : List Oper) (S0 S1 : World → Prop) (K : Act → Prop) : List (Nat × Bool) → Act → Prop
  | [], a => K a
  | (i, true) :: r, a => wpQuiet P l.toArray S0 (fun a' => wpQ2 P l S0 S1 K r a') (pk l [i]) a
  | (i, false) :: r, a => wpQuiet P l.toArray S1 (fun a' => wpQ2 P l S0 S1 K r a') (pk l [i]) a
def wpMixS (P : Program) (l : List Oper) (S0 S1 : World → Prop) (late : List Nat) (Q : Exit → Act → World → Prop) : PlanS → Bool → Act → World → Prop
  | .done last, st, a, w => wpQ2 P l S0 S1 (fun a' => Q .normal a' w) last a
  | .one seg i r, st, a, w => wpQ2 P l S0 S1 (fun a' => wpList P l.toArray (thenQ Q fun a'' w'' => (match (st || late.contains i) with | true => S1 w'' | false => S0 w'') ∧ wpMixS P l S0 S1 late Q r (st || late.contains i) a'' w'') (pk l [i]) a' w) seg a
def earlyB (md : Region.Mode) (l : List Oper) (late : List Nat) (i : Nat) : Bool := late.all fun k => match l[k]? with
  | some o => o.after.any fun e => Region.binds md e && (e.on == i)
  | none => false
def segSB (md : Region.Mode) (l : List Oper) (late : List Nat) : List (Nat × Bool) → Array Bool → Option (Array Bool)
  | [], listed => some listed
  | (i, b) :: r, listed => if ((l[i]?).map pureOp).getD false && (Region.ready md l.toArray listed).contains i && Region.free md l.toArray listed i && !late.contains i && (!b || earlyB md l late i) then segSB md l late r (listed.setIfInBounds i true) else none
def cntS : PlanS → Nat
  | .done last => last.length
  | .one seg _ r => seg.length + 1 + cntS r
def mixSB (md : Region.Mode) (l : List Oper) (late : List Nat) : PlanS → Array Bool → Bool
  | .done last, listed => match segSB md l late last listed with
    | none => false
    | some l' => decide (Region.ready md l.toArray l' = [])
  | .one seg i r, listed => match segSB md l late seg listed with
    | none => false
    | some l' => decide (Region.ready md l.toArray l' = [i]) && mixSB md l late r (l'.setIfInBounds i true)
def mixSAll (l : List Oper) (late : List Nat) (plan : PlanS) : Bool := Region.noSelect l.toArray && decide (cntS plan = l.length) && mixSB .any l late plan (Array.replicate l.length false)
theorem segS_headS {l : List Oper} (hsel : Region.noSelect l.toArray = true) (hQ : ∀ c d v a w, Q (.panic c) (Act.put a d v) w → Q (.panic c) a w) (h01 : ∀ w, S0 w → S1 w) :
    ∀ (seg : List (Nat × Bool)) (listed l' : Array Bool) (f : Nat) (K : Act → Prop) (a : Act) (w : World), HeadInv md l.toArray l.toArray.size listed → segSB md l late seg listed = some l' → SS S0 S1 late listed w → wpQ2 P l S0 S1 K seg a →
      (HeadInv md l.toArray l.toArray.size l' → SS S0 S1 late l' w → (∀ k ∈ late, l'.getD k true = listed.getD k true) → ∀ a', K a' → headS P md l.toArray (SS S0 S1 late) Q f l' a' w) → headS P md l.toArray (SS S0 S1 late) Q (seg.length + f) listed a w
  | [], listed, l', f, K, a, w, inv, hB, hS, h, hK => by
    simp only [segSB, Option.some.injEq] at hB
    subst hB
    rw [List.length_nil, Nat.zero_add]
    exact hK inv hS (fun _ _ => rfl) a h
  | (i, b) :: seg, listed, l', f, K, a, w, inv, hB, hS, h, hK => by
    unfold segSB at hB
    split at hB
    · rename_i hc
      simp only [Bool.and_eq_true, Bool.or_eq_true, Bool.not_eq_true'] at hc
      obtain ⟨⟨⟨⟨hp, hr⟩, hf⟩, hnl⟩, hb⟩ := hc
      cases ho : l[i]? with
      | none => rw [ho] at hp; simp at hp
      | some o =>
        rw [ho] at hp
        have hp' : pureOp o = true := by simpa using hp
        have ho' : l.toArray[i]? = some o := by simpa using ho
        have hin : i < l.toArray.size := (Array.getElem?_eq_some_iff.1 ho').1
        have hr' : i ∈ Region.ready md l.toArray listed := by simpa using hr
        have hni : i ∉ late := by simpa using hnl
        have e : pk l [i] = [o] := by rw [pk_cons, pushAt_eq _ _ _ ho]; rfl
        have hSi : ∀ (ls : Array Bool) (w : World), SS S0 S1 late (ls.setIfInBounds i true) w ↔ SS S0 S1 late ls w := fun ls w => by
          have hk : ∀ k ∈ late, (ls.setIfInBounds i true).getD k true = ls.getD k true := fun k hk => getD_set_ne true (fun e => hni (e ▸ hk))
          unfold SS
          constructor
          · rintro ⟨h1, h2⟩
            exact ⟨h1, fun h3 => h2 fun k hk' => by rw [hk k hk']; exact h3 k hk'⟩
          · rintro ⟨h1, h2⟩
            exact ⟨h1, fun h3 => h2 fun k hk' => by rw [← hk k hk']; exact h3 k hk'⟩
        have hlk : ∀ k ∈ late, (listed.setIfInBounds i true).getD k true = listed.getD k true := fun k hk => getD_set_ne true (fun e => hni (e ▸ hk))
        obtain ⟨C, hC, hst⟩ : ∃ C : World → Prop, (∀ (ls : Array Bool) (w : World), HeadInv md l.toArray l.toArray.size ls → ls.getD i true = false → SS S0 S1 late ls w → C w) ∧ qOp P l.toArray C i (wpQ2 P l S0 S1 K seg) a := by
          cases b with
          | false =>
            refine ⟨S1, fun ls w _ _ h => h.1, ?_⟩
            unfold wpQ2 at h
            rw [e] at h
            unfold qOp
            simp only [ho']
            exact h
          | true =>
            have he : earlyB md l late i = true := by simpa using hb
            refine ⟨S0, fun ls w inv' hun h => h.2 fun k hk => ?_, ?_⟩
            · unfold earlyB at he
              have hek := List.all_eq_true.1 he k hk
              cases hok : l[k]? with
              | none => rw [hok] at hek; cases hek
              | some ok =>
                rw [hok] at hek
                simp only [Array.any_eq_true, Bool.and_eq_true, beq_iff_eq] at hek
                obtain ⟨q, hq, hb1, hb2⟩ := hek
                cases hg : ls.getD k true with
                | false => rfl
                | true =>
                  have hks : k < ls.size := by
                    rw [inv'.size]
                    exact (Array.getElem?_eq_some_iff.1 (show l.toArray[k]? = some ok by simpa using hok)).1
                  have hg2 : ls.getD k false = true := by
                    simp only [Array.getD, hks, dif_pos] at hg ⊢
                    exact hg
                  have := inv'.closed k ok (by simpa using hok) hg2 _ (Array.getElem_mem hq) hb1
                  rw [hb2, getD_both hun] at this
                  cases this
            · unfold wpQ2 at h
              rw [e] at h
              unfold qOp
              simp only [ho']
              exact h
        obtain ⟨v, hy, hk⟩ := yieldsIn_of_qOp ho' hst
        rw [List.length_cons, show seg.length + 1 + f = (seg.length + f) + 1 by omega]
        exact headS_first ho' (Region.noSelect_spec hsel) (fun c a w h => hQ c _ _ a w h) hSi hC _ listed a w inv (Region.free_spec ho' hf) hr' (yieldsIf_of_in hp' hy) hS
          (segS_headS hsel hQ h01 seg _ l' f K _ w (inv.set hr' hin) hB ((hSi _ _).2 hS) hk (fun i1 s1 e1 => hK i1 s1 (fun k hk => (e1 k hk).trans (hlk k hk))))
    · cases hB
theorem mixS_headS {l : List Oper} (hsel : Region.noSelect l.toArray = true) (hQ : ∀ c d v a w, Q (.panic c) (Act.put a d v) w → Q (.panic c) a w) (h01 : ∀ w, S0 w → S1 w) :
    ∀ (plan : PlanS) (st : Bool) (listed : Array Bool) (a : Act) (w : World), HeadInv md l.toArray l.toArray.size listed → (st = true → ∃ k ∈ late, listed.getD k true = true) → mixSB md l late plan listed = true → SS S0 S1 late listed w →
      wpMixS P l S0 S1 late Q plan st a w → headS P md l.toArray (SS S0 S1 late) Q (cntS plan) listed a w
  | .done last, st, listed, a, w, inv, hst, hB, hS, h => by
    unfold mixSB at hB
    split at hB
    · cases hB
    · rename_i l' hl'
      have := segS_headS (P := P) (Q := Q) hsel hQ h01 last listed l' 0 _ a w inv hl' hS h (fun _ _ _ a' h' => ⟨by simpa using hB, h'⟩)
      simpa [cntS] using this
  | .one seg i r, st, listed, a, w, inv, hst, hB, hS, h => by
    unfold mixSB at hB
    split at hB
    · cases hB
    · rename_i l' hl'
      simp only [Bool.and_eq_true, decide_eq_true_eq] at hB
      obtain ⟨hr, hB⟩ := hB
      have := segS_headS (P := P) (Q := Q) hsel hQ h01 seg listed l' (1 + cntS r) _ a w inv hl' hS h (fun inv' hS' hk' a' h' => by
        rw [Nat.add_comm 1]
        refine ⟨by rw [hr]; simp, fun j hj => ?_⟩
        have hj0 := hj
        rw [hr] at hj
        have hji : j = i := by simpa using hj
        subst hji
        obtain ⟨_, oj, hoj, _⟩ := mem_ready.1 hj0
        have hjn : j < l.toArray.size := (Array.getElem?_eq_some_iff.1 hoj).1
        have e : pk l [j] = [oj] := by
          have : l[j]? = some oj := by simpa using hoj
          rw [pk_cons, pushAt_eq _ _ _ this]; rfl
        rw [e] at h'
        have hst2 : (st || late.contains j) = true → ∃ k ∈ late, (l'.setIfInBounds j true).getD k true = true := fun hb => by
          by_cases hjl : j ∈ late
          · refine ⟨j, hjl, ?_⟩
            simp [Array.getD]
          · have hs : st = true := by simpa [hjl] using hb
            obtain ⟨k, hk, hk2⟩ := hst hs
            have hjk : j ≠ k := fun e' => hjl (by rw [e']; exact hk)
            exact ⟨k, hk, by rw [getD_set_ne true hjk, hk' k hk, hk2]⟩
        refine wpOp_mono (fun a'' w'' h3 => ?_) (wpOp_of_list hoj h')
        obtain ⟨h3a, h3b⟩ := h3
        have hSS : SS S0 S1 late (l'.setIfInBounds j true) w'' := by
          cases hb : (st || late.contains j) with
          | true =>
            rw [hb] at h3a
            refine ⟨h3a, fun hall => ?_⟩
            obtain ⟨k, hk, hk2⟩ := hst2 hb
            rw [hall k hk] at hk2
            cases hk2
          | false =>
            rw [hb] at h3a
            exact ⟨h01 _ h3a, fun _ => h3a⟩
        exact ⟨hSS, mixS_headS hsel hQ h01 r _ _ a'' w'' (inv'.set hj0 hjn) hst2 hB hSS h3b⟩)
      simp only [cntS]
      rwa [show seg.length + 1 + cntS r = seg.length + (1 + cntS r) by omega]
end
theorem wp_region_mixS {P : Program} {id : Nat} {Q : Exit → Act → World → Prop} {a : Act} {w : World} {l : List Oper} (T : Nat → Prop) (late : List Nat) (plan : PlanS) (hm : P.follows .mixedOrders = true) (hQ : ∀ c d v a w, Q (.panic c) (Act.put a d v) w → Q (.panic c) a w)
    (hB : mixSAll l late plan = true)
    (h : wpMixS P l (fun w' => ∃ x : UpW w.heap.size w, w' = x.w) (fun w' => ∃ x : OnW T w, w' = x.w) late Q plan false a w.drew) : (Code.region id l.toArray true).wp P Q a w := by
  simp only [mixSAll, Bool.and_eq_true, decide_eq_true_eq] at hB
  obtain ⟨⟨hsel, hcnt⟩, hmix⟩ := hB
  have inv0 : HeadInv .any l.toArray l.toArray.size (Array.replicate l.length false) :=
    ⟨by simp, fun j oj _ hl => (by rw [getD_replicate_false] at hl; cases hl), fun t h1 h2 => by omega⟩
  have h01 : ∀ w', (∃ x : UpW w.heap.size w, w' = x.w) → ∃ x : OnW T w, w' = x.w := fun w' ⟨x, hx⟩ => ⟨⟨x.w, Only.of_below x.up⟩, hx⟩
  have hu0 : ∃ x : UpW w.heap.size w, w.drew = x.w := ⟨⟨w.drew, (Below.refl _ w).drew⟩, rfl⟩
  have H := mixS_headS (md := .any) hsel hQ h01 plan false _ a w.drew inv0 (fun h => by cases h) hmix ⟨h01 _ hu0, fun _ => hu0⟩ h
  refine wp_region_any hm ?_
  have key := any_of_headS _ _ _ _ H
  rw [hcnt] at key
  simpa using key
/-- The same, where blocks in T0 may turn from the first. -/
theorem wp_region_mixS2 {P : Program} {id : Nat} {Q : Exit → Act → World → Prop} {a : Act} {w : World} {l : List Oper} (T0 T : Nat → Prop) (hT : ∀ k, T0 k → T k) (late : List Nat) (plan : PlanS) (hm : P.follows .mixedOrders = true) (hQ : ∀ c d v a w, Q (.panic c) (Act.put a d v) w → Q (.panic c) a w)
    (hB : mixSAll l late plan = true)
    (h : wpMixS P l (fun w' => ∃ x : OnW T0 w, w' = x.w) (fun w' => ∃ x : OnW T w, w' = x.w) late Q plan false a w.drew) : (Code.region id l.toArray true).wp P Q a w := by
  simp only [mixSAll, Bool.and_eq_true, decide_eq_true_eq] at hB
  obtain ⟨⟨hsel, hcnt⟩, hmix⟩ := hB
  have inv0 : HeadInv .any l.toArray l.toArray.size (Array.replicate l.length false) :=
    ⟨by simp, fun j oj _ hl => (by rw [getD_replicate_false] at hl; cases hl), fun t h1 h2 => by omega⟩
  have h01 : ∀ w', (∃ x : OnW T0 w, w' = x.w) → ∃ x : OnW T w, w' = x.w := fun w' ⟨x, hx⟩ => ⟨⟨x.w, x.on.mono hT⟩, hx⟩
  have hu0 : ∃ x : OnW T0 w, w.drew = x.w := ⟨⟨w.drew, (Only.refl _ w).drew⟩, rfl⟩
  have H := mixS_headS (md := .any) hsel hQ h01 plan false _ a w.drew inv0 (fun h => by cases h) hmix ⟨h01 _ hu0, fun _ => hu0⟩ h
  refine wp_region_any hm ?_
  have key := any_of_headS _ _ _ _ H
  rw [hcnt] at key
  simpa using key
end Go.Proofs.YtnbccoelbfgmgaaGreatDoor
/- Package buffer: the positions move with an edit. -/
namespace Go.Proofs.YtnbccoelbfgmgaaGreatDoor
open Go.RowKit
set_option linter.unusedVariables false
set_option linter.unusedSimpArgs false
/-- From w on, the closure maps positions by f. -/
structure EditAt (w : World) (F : FuncId) (cp : Array Value) (f : Int → Bool → Int) : Prop where
  en : Enters F
  run : ∀ (x : Int) (ah : Bool) (w1 : World), 0 ≤ x → x ≤ 2000000 → Below w.heap.size w w1 → Calls Tryz.prog F (#[.int .i64 x, .bool ah] ++ cp) w1 fun r w2 => r = .returned (.int .i64 (f x ah)) ∧ Below w1.heap.size w1 w2
section
variable {w w' : World} {b g o : Nat} {S : BS} {F : FuncId} {cp : Array Value} {f : Int → Bool → Int}
theorem EditAt.up (h : EditAt w F cp f) (hb : Below w.heap.size w w') : EditAt w' F cp f := ⟨h.en, fun x a w1 h0 h1 hb1 => h.run x a w1 h0 h1 (up2 hb hb1)⟩
set_option maxRecDepth 100000 in
set_option maxHeartbeats 4000000 in
theorem move_ok (hE : EditAt w F cp f) (bf : Bool) (p0 p1 p2 p3 : Int) (h0 : w.cell? ⟨g, o, none⟩ = some (.int .i64 p0)) (h1 : w.cell? ⟨g, o + 1, none⟩ = some (.int .i64 p1)) (h2 : w.cell? ⟨g, o + 2, none⟩ = some (.int .i64 p2)) (h3 : w.cell? ⟨g, o + 3, none⟩ = some (.int .i64 p3))
    (z0 : w.frozen? ⟨g, o, none⟩ = false) (z1 : w.frozen? ⟨g, o + 1, none⟩ = false) (z2 : w.frozen? ⟨g, o + 2, none⟩ = false) (z3 : w.frozen? ⟨g, o + 3, none⟩ = false)
    (b0 : 0 ≤ p0 ∧ p0 ≤ 2000000) (b1 : 0 ≤ p1 ∧ p1 ≤ 2000000) (b2 : 0 ≤ p2 ∧ p2 ≤ 2000000) (b3 : 0 ≤ p3 ∧ p3 ≤ 2000000) :
    Calls Tryz.prog 198 #[.pointer (some ⟨g, o, none⟩), .func (.func F) #[] cp, .bool bf] w fun r w' => r = .returned (.tuple #[]) ∧
      ∃ w1, Below w.heap.size w w1 ∧ w' = (((w1.setCell ⟨g, o, none⟩ (.int .i64 (f p0 bf))).setCell ⟨g, o + 1, none⟩ (.int .i64 (f p1 false))).setCell ⟨g, o + 2, none⟩ (.int .i64 (f p2 true))).setCell ⟨g, o + 3, none⟩ (.int .i64 (f p3 bf)) := by
  have hg := lt_of_cell h0
  have hin : ∀ (args : Array Value) (w : World), (callFunc F args).run Tryz.prog w = .ok (.enter F args) w := hE.en
  have C0 : ∀ x : UpW w.heap.size w, x.w.cell? ⟨g, o, none⟩ = some (.int .i64 p0) := fun x => cell_up h0 x.up
  have C1 : ∀ x : UpW w.heap.size w, x.w.cell? ⟨g, o + 1, none⟩ = some (.int .i64 p1) := fun x => cell_up h1 x.up
  have C2 : ∀ x : UpW w.heap.size w, x.w.cell? ⟨g, o + 2, none⟩ = some (.int .i64 p2) := fun x => cell_up h2 x.up
  have C3 : ∀ x : UpW w.heap.size w, x.w.cell? ⟨g, o + 3, none⟩ = some (.int .i64 p3) := fun x => cell_up h3 x.up
  have HE0 := Lib.hid fun w1 (hb : Below w.heap.size w w1) => hE.run p0 bf w1 b0.1 b0.2 hb
  have HE1 := Lib.hid fun w1 (hb : Below w.heap.size w w1) => hE.run p1 false w1 b1.1 b1.2 hb
  have HE2 := Lib.hid fun w1 (hb : Below w.heap.size w w1) => hE.run p2 true w1 b2.1 b2.2 hb
  have HE3 := Lib.hid fun w1 (hb : Below w.heap.size w w1) => hE.run p3 bf w1 b3.1 b3.2 hb
  have HC := Lib.hid (⟨h0, h1, h2, h3⟩ : _ ∧ _ ∧ _ ∧ _)
  have HZ := Lib.hid (⟨z0, z1, z2, z3⟩ : _ ∧ _ ∧ _ ∧ _)
  generalize f p0 bf = q0 at *
  generalize f p1 false = q1 at *
  generalize f p2 true = q2 at *
  generalize f p3 bf = q3 at *
  clear hE h0 h1 h2 h3 z0 z1 z2 z3 b0 b1 b2 b3
  go_enter Tryz.func198, Tryz.ntmps198
  go_wp2_with fail
  refine wp_region_mixS (fun k => k = g) [32, 35, 38, 41] (.one [(0, true), (1, false), (2, false), (3, false), (4, true), (5, true), (6, true), (7, true), (8, true), (9, true), (11, false), (12, false), (13, false), (14, false), (15, true), (17, false), (18, false), (19, false), (20, false), (21, true), (23, false), (24, false), (25, false), (26, false), (27, true), (28, false)] 10 (.one [] 16 (.one [] 22 (.one [] 29 (.one [(30, false), (31, true)] 32 (.one [(33, false), (34, false)] 35 (.one [(36, false), (37, false)] 38 (.one [(39, false), (40, false)] 41 (.done []))))))))) (by kernel_rfl) (fun c d v a w h => by cases d <;> exact h) (by kernel_rfl) ?_
  simp only [wpMixS, wpQ2, pk_nil, pk_cons, pushAt_zero, pushAt_succ, List.contains_cons, List.contains_nil, Bool.false_or, Bool.or_false, Bool.true_or, Bool.or_true, Nat.reduceBEq, Nat.reduceEqDiff]
  repeat (first | go_big_quiet_step (fail) | refine wpQuiet_nil ?_)
  clear C0 C1 C2 C3
  go_wp2_with fail
  refine (HE0.out _ (Below.refl _ w).drew).mono ?_
  rintro r w1 ⟨rfl, hb1⟩
  have hb1 : Below w.heap.size w w1 := up2 (Below.refl _ w).drew hb1
  go_wp2_with fail
  refine thenQ_normal ⟨⟨⟨_, hb1⟩, rfl⟩, ?_⟩
  go_wp2_with fail
  refine (HE1.out _ hb1).mono ?_
  rintro r w2 ⟨rfl, hb2⟩
  have hb2 : Below w.heap.size w w2 := up2 hb1 hb2
  clear hb1
  go_wp2_with fail
  refine thenQ_normal ⟨⟨⟨_, hb2⟩, rfl⟩, ?_⟩
  go_wp2_with fail
  refine (HE2.out _ hb2).mono ?_
  rintro r w3 ⟨rfl, hb3⟩
  have hb3 : Below w.heap.size w w3 := up2 hb2 hb3
  clear hb2
  go_wp2_with fail
  refine thenQ_normal ⟨⟨⟨_, hb3⟩, rfl⟩, ?_⟩
  go_wp2_with fail
  refine (HE3.out _ hb3).mono ?_
  rintro r w4 ⟨rfl, hb4⟩
  have hb4 : Below w.heap.size w w4 := up2 hb3 hb4
  clear hb3
  go_wp2_with fail
  refine thenQ_normal ⟨⟨⟨_, hb4⟩, rfl⟩, ?_⟩
  repeat (first | go_big_quiet_step (fail) | refine wpQuiet_nil ?_)
  obtain ⟨h0, h1, h2, h3⟩ := HC.out
  obtain ⟨z0, z1, z2, z3⟩ := HZ.out
  have h0 := cell_up h0 hb4
  have h1 := cell_up h1 hb4
  have h2 := cell_up h2 hb4
  have h3 := cell_up h3 hb4
  have z0 := (hb4.frozen (p := ⟨g, o, none⟩) hg).trans z0
  have z1 := (hb4.frozen (p := ⟨g, o + 1, none⟩) hg).trans z1
  have z2 := (hb4.frozen (p := ⟨g, o + 2, none⟩) hg).trans z2
  have z3 := (hb4.frozen (p := ⟨g, o + 3, none⟩) hg).trans z3
  have ho : Only (fun k => k = g) w w4 := Only.of_below hb4
  go_wp2_with fail
  refine thenQ_normal ⟨⟨⟨_, ho.setCell (p := ⟨g, o, none⟩) rfl _⟩, rfl⟩, ?_⟩
  repeat (first | go_big_quiet_step (fail) | refine wpQuiet_nil ?_)
  go_wp2_with fail
  refine thenQ_normal ⟨⟨⟨_, (ho.setCell (p := ⟨g, o, none⟩) rfl _).setCell (p := ⟨g, o + 1, none⟩) rfl _⟩, rfl⟩, ?_⟩
  repeat (first | go_big_quiet_step (fail) | refine wpQuiet_nil ?_)
  go_wp2_with fail
  refine thenQ_normal ⟨⟨⟨_, ((ho.setCell (p := ⟨g, o, none⟩) rfl _).setCell (p := ⟨g, o + 1, none⟩) rfl _).setCell (p := ⟨g, o + 2, none⟩) rfl _⟩, rfl⟩, ?_⟩
  repeat (first | go_big_quiet_step (fail) | refine wpQuiet_nil ?_)
  go_wp2_with fail
  refine thenQ_normal ⟨⟨⟨_, (((ho.setCell (p := ⟨g, o, none⟩) rfl _).setCell (p := ⟨g, o + 1, none⟩) rfl _).setCell (p := ⟨g, o + 2, none⟩) rfl _).setCell (p := ⟨g, o + 3, none⟩) rfl _⟩, rfl⟩, ?_⟩
  go_end0
  exact ⟨rfl, w4, hb4, rfl⟩
end
end Go.Proofs.YtnbccoelbfgmgaaGreatDoor
/- Package buffer: inserted, moves. -/
namespace Go.Proofs.YtnbccoelbfgmgaaGreatDoor
open Go.RowKit
set_option linter.unusedVariables false
set_option linter.unusedSimpArgs false
def insF (at_ n : Int) (x : Int) (ah : Bool) : Int := if at_ < x ∨ x = at_ ∧ ah = true then x + n else x
section
variable {w w' : World} {b g o : Nat} {S : BS} {F : FuncId} {cp : Array Value} {f : Int → Bool → Int}
set_option maxRecDepth 100000 in
set_option maxHeartbeats 1000000 in
theorem inserted1_ok {k0 k1 : Nat} (at_ n x : Int) (ah : Bool) (hx0 : 0 ≤ x) (hx1 : x ≤ 2000000) (hn0 : 0 ≤ n) (hn1 : n ≤ 2000000) (h0 : w.cell? ⟨k0, 0, none⟩ = some (.int .i64 at_)) (h1 : w.cell? ⟨k1, 0, none⟩ = some (.int .i64 n)) :
    Calls Tryz.prog 199 #[.int .i64 x, .bool ah, pAt k0, pAt k1] w fun r w2 => r = .returned (.int .i64 (insF at_ n x ah)) ∧ Below w.heap.size w w2 := by
  have s1 : IntKind.i64.wrap (x + n) = x + n := IntWalk.i64_in _ (by omega)
  clear hx0 hx1 hn0 hn1
  unfold insF
  by_cases hlt : at_ < x
  · rw [if_pos (.inl hlt)]
    have d1 : decide (at_ < x) = true := decide_eq_true hlt
    go_enter Tryz.func199, Tryz.ntmps199
    go_wp2_with fail
    go_ret
    exact ⟨rfl, Below.refl _ _⟩
  · have d1 : decide (at_ < x) = false := decide_eq_false hlt
    by_cases he : x = at_
    · have d2 : (x == at_) = true := by simp [he]
      cases ah with
      | true =>
        rw [if_pos (.inr ⟨he, rfl⟩)]
        clear he hlt
        go_enter Tryz.func199, Tryz.ntmps199
        go_wp2_with fail
        go_ret
        exact ⟨rfl, Below.refl _ _⟩
      | false =>
        rw [if_neg (by simp [hlt])]
        clear he hlt
        go_enter Tryz.func199, Tryz.ntmps199
        go_wp2_with fail
        go_ret
        exact ⟨rfl, Below.refl _ _⟩
    · have d2 : (x == at_) = false := by simp [he]
      rw [if_neg (by simp [hlt, he])]
      clear he hlt
      go_enter Tryz.func199, Tryz.ntmps199
      go_wp2_with fail
      go_ret
      exact ⟨rfl, Below.refl _ _⟩
set_option maxHeartbeats 1000000 in
theorem inserted_ok (at_ n : Int) (hn0 : 0 ≤ n) (hn1 : n ≤ 2000000) (w : World) : Calls Tryz.prog 157 #[.int .i64 at_, .int .i64 n] w fun r w' =>
    ∃ cp, r = .returned (.func (.func 199) #[] cp) ∧ Below w.heap.size w w' ∧ EditAt w' 199 cp (insF at_ n) := by
  have HN0 := Lib.hid hn0
  have HN1 := Lib.hid hn1
  clear hn0 hn1
  go_enter Tryz.func157, Tryz.ntmps157
  go_wp2_with fail
  go_ret
  obtain ⟨a0, a1⟩ := al2 w (.int .i64 at_) (.int .i64 n) 3 3
  refine ⟨_, rfl, below2 w _ _, enters_mk Tryz.func199 (by kernel_rfl) rfl, fun x ah w1 h0 h1 hb => ?_⟩
  exact inserted1_ok at_ n x ah h0 h1 HN0.out HN1.out (cell_up a0 hb) (cell_up a1 hb)
set_option maxHeartbeats 2000000 in
theorem moves0_ok (h : BufB w b S) (hs : S.saved = .slice none 0 0) (hE : EditAt w F cp f) (bf : Bool) (b0 : S.pt ≤ 2000000) (b1 : S.lo ≤ 2000000) (b2 : S.hi ≤ 2000000) (b3 : S.mark ≤ 2000000)
    (p' l' h' m' : Nat) (e0 : f S.pt bf = p') (e1 : f S.lo false = l') (e2 : f S.hi true = h') (e3 : f S.mark bf = m') :
    Calls Tryz.prog 156 #[pAt b, .func (.func F) #[] cp, .bool bf] w fun r w' => r = .returned (.tuple #[]) ∧ Only (fun k => k = b) w w' ∧ BufB w' b { S with pt := p', lo := l', hi := h', mark := m' } := by
  have HM := Lib.hid (move_ok (g := b) (o := 0) hE bf S.pt S.lo S.hi S.mark (h.cell (j := 0) rfl) (h.cell (j := 1) rfl) (h.cell (j := 2) rfl) (h.cell (j := 3) rfl) (h.fz 0) (h.fz 1) (h.fz 2) (h.fz 3) (by omega) (by omega) (by omega) (by omega))
  rw [e0, e1, e2, e3] at HM
  have H := Lib.hid h
  have HS := Lib.hid hs
  have hin : ∀ (args : Array Value) (w : World), (callFunc F args).run Tryz.prog w = .ok (.enter F args) w := hE.en
  clear h hs hE b0 b1 b2 b3 e0 e1 e2 e3
  go_enter Tryz.func156, Tryz.ntmps156
  go_wp2_with fail
  refine HM.out.mono ?_
  rintro r wx ⟨rfl, w1, hb1, rfl⟩
  have h4 : BufB ((((w1.setCell ⟨b, 0, none⟩ (.int .i64 (p' : Int))).setCell ⟨b, 0 + 1, none⟩ (.int .i64 (l' : Int))).setCell ⟨b, 0 + 2, none⟩ (.int .i64 (h' : Int))).setCell ⟨b, 0 + 3, none⟩ (.int .i64 (m' : Int))) b { S with pt := p', lo := l', hi := h', mark := m' } :=
    ((((H.out.up hb1).set (j := 0) (by simp) (.int .i64 (p' : Int))).set (j := 1) (by simp) (.int .i64 (l' : Int))).set (j := 2) (by simp) (.int .i64 (h' : Int))).set (j := 3) (by simp) (.int .i64 (m' : Int))
  have o4 : Only (fun k => k = b) w ((((w1.setCell ⟨b, 0, none⟩ (.int .i64 (p' : Int))).setCell ⟨b, 0 + 1, none⟩ (.int .i64 (l' : Int))).setCell ⟨b, 0 + 2, none⟩ (.int .i64 (h' : Int))).setCell ⟨b, 0 + 3, none⟩ (.int .i64 (m' : Int))) :=
    ((((Only.of_below (S := fun k => k = b) hb1).setCell (p := ⟨b, 0, none⟩) rfl _).setCell (p := ⟨b, 0 + 1, none⟩) rfl _).setCell (p := ⟨b, 0 + 2, none⟩) rfl _).setCell (p := ⟨b, 0 + 3, none⟩) rfl _
  generalize (((w1.setCell ⟨b, 0, none⟩ (.int .i64 (p' : Int))).setCell ⟨b, 0 + 1, none⟩ (.int .i64 (l' : Int))).setCell ⟨b, 0 + 2, none⟩ (.int .i64 (h' : Int))).setCell ⟨b, 0 + 3, none⟩ (.int .i64 (m' : Int)) = W at *
  have c17 : W.cell? ⟨b, 17, none⟩ = some (.slice none 0 0) := by rw [← HS.out]; exact h4.cell (j := 17) rfl
  have H4 := Lib.hid h4
  clear h4 HM
  go_wp2_with fail
  go_loopw [18] (fun va wr => va = .int .i64 0 ∧ W = wr) (fun _ _ => 0)
  case atStart => exact ⟨rfl, rfl⟩
  case round =>
    obtain ⟨rfl, rfl⟩ := hrel
    go_wp2_with fail
    go_end0
    exact ⟨rfl, o4, H4.out⟩
end
end Go.Proofs.YtnbccoelbfgmgaaGreatDoor
/- Package buffer: note of the first insertion into a new buffer. -/
namespace Go.Proofs.YtnbccoelbfgmgaaGreatDoor
open Go.RowKit
set_option linter.unusedVariables false
set_option linter.unusedSimpArgs false
section
variable {w w' : World} {b : Nat} {S : BS}
set_option maxRecDepth 100000 in
set_option maxHeartbeats 4000000 in
theorem note0_ok {N : Nat} (hR : Rules N w) (h : BufB w b S) (hlg : S.logs = true) (hem : S.empty = true) (htk : S.tick = 0) (hcl : S.clean = 0) (hpt : S.pt = 1) (hNl : N ≤ S.l) (hNb : N ≤ b) (hbl : b ≠ S.l)
    (hL : Blk w S.l 173 (lgC (.slice none 0 0) (.slice none 0 0) 0 0)) (q : Nat) (hq : 1 ≤ q) (hq2 : q ≤ 100000000) :
    Calls Tryz.prog 152 #[pAt b, chV (1, 1, (q : Int))] w fun r w' => r = .returned (.tuple #[]) ∧ Only (fun k => k = b ∨ k = S.l) w w' ∧ BufB w' b { S with empty := false } ∧
      ∃ B v, w.heap.size ≤ B ∧ B ≤ w'.heap.size ∧ ROwn chC 119 9 B w' v [(6, 0, 0), (4, 1, 0), (1, 1, (q : Int))] ∧ Blk w' S.l 173 (lgC (.slice none 0 0) v 3 3) := by
  obtain ⟨pt, lo, hi, mark, marked, ro, fo, tick, clean, t, m, p, o, l, logs, empty, lock, saved, tokens⟩ := S
  simp only at hlg hem htk hcl hpt hNl hbl hL ⊢
  subst hlg hem htk hcl hpt
  have c14 := h.cell (j := 14) rfl
  have c15 := h.cell (j := 15) rfl
  have f15 := h.fz 15
  have c7 : w.cell? ⟨b, 7, none⟩ = some (.int .i64 0) := h.cell (j := 7) rfl
  have c8 : w.cell? ⟨b, 8, none⟩ = some (.int .i64 0) := h.cell (j := 8) rfl
  have c13 := h.cell (j := 13) rfl
  obtain ⟨w0, hw0⟩ : ∃ w0, w.setCell ⟨b, 15, none⟩ (.bool false) = w0 := ⟨_, rfl⟩
  have h0 : BufB w0 b ⟨1, lo, hi, mark, marked, ro, fo, 0, 0, t, m, p, o, l, true, false, lock, saved, tokens⟩ := hw0 ▸ h.set (j := 15) (by simp) (.bool false)
  have hL0 : Blk w0 l 173 (lgC (.slice none 0 0) (.slice none 0 0) 0 0) := hw0 ▸ hL.kept (Below.heap_setCell _ ⟨b, 15, none⟩ _ _ (Ne.symm hbl))
  have ho0 : Only (fun k => k = b) w w0 := hw0 ▸ Only.setCell (S := fun k => k = b) (p := ⟨b, 15, none⟩) (Only.refl _ w) rfl _
  have hR0 : Rules N w0 := hR.only ho0 (fun k hk => hk ▸ hNb)
  have hsz0 : w0.heap.size = w.heap.size := by rw [← hw0]; simp
  have hb1 := below1 w0 (.cells #[.int .i64 1, .int .i64 1, .int .i64 (q : Int), .int .i64 0, .int .i64 0, .string ⟨#[]⟩, .int .i64 0, .int .i64 0, .bool false] 119)
  have hk := Blk.made w0 119 #[.int .i64 1, .int .i64 1, .int .i64 (q : Int), .int .i64 0, .int .i64 0, .string ⟨#[]⟩, .int .i64 0, .int .i64 0, .bool false]
  have hsz : (w0.alloc (.cells #[.int .i64 1, .int .i64 1, .int .i64 (q : Int), .int .i64 0, .int .i64 0, .string ⟨#[]⟩, .int .i64 0, .int .i64 0, .bool false] 119)).heap.size = w.heap.size + 1 := by simp [hsz0]
  have hlw := hL.lt
  have hbw := h.lt
  rw [hsz0] at hk
  have d7 : w0.cell? ⟨b, 7, none⟩ = some (.int .i64 0) := h0.cell (j := 7) rfl
  have d8 : w0.cell? ⟨b, 8, none⟩ = some (.int .i64 0) := h0.cell (j := 8) rfl
  have d13 := h0.cell (j := 13) rfl
  have H1 := Lib.hid (h0.up hb1)
  have R1 := Lib.hid (hR0.up hb1)
  have L1 := Lib.hid (hL0.up hb1)
  have K1 := Lib.hid hk
  have O1 := Lib.hid (ho0.trans (Only.of_below hb1))
  have NL := Lib.hid (And.intro hNl hNb)
  have HQ := Lib.hid (And.intro hq hq2)
  have HBL := Lib.hid hbl
  clear h hR hL hk hb1 h0 hL0 hR0 ho0 hNl hNb hq hq2
  go_enter Tryz.func152, Tryz.ntmps152
  go_wp2_with fail
  go_region
  go_wp2_with fail
  generalize w0.alloc (.cells #[.int .i64 1, .int .i64 1, .int .i64 (q : Int), .int .i64 0, .int .i64 0, .string ⟨#[]⟩, .int .i64 0, .int .i64 0, .bool false] 119) = W at *
  clear c14 c15 f15 c7 c8 c13 hw0 d7 d8 d13
  have hd := (Below.refl W.heap.size W).drew
  refine (uaddA (B := W.heap.size) (R1.out.up hd) (Nat.le_refl _) (by have := NL.out; omega) (by omega) NL.out.1 (L1.out.up hd)).mono ?_
  rintro r w2 ⟨rfl, v2, hv2, hl2, ho2⟩
  have ho2' : Only (fun k => k = l ∨ W.heap.size ≤ k) W w2 := ((Only.refl _ W).drew).trans ho2
  have hs2 := ho2'.size
  have H2 := Lib.hid (H1.out.only ho2' (by have := HBL.out; omega))
  have K2 := Lib.hid (K1.out.only ho2' (by omega))
  have R2 := Lib.hid (R1.out.only ho2' (fun k hk => by have := NL.out; omega))
  have O2 := Lib.hid ho2'
  have V2 := Lib.hid hv2
  have L2 := Lib.hid hl2
  clear hv2 hl2 ho2 ho2' R1 L1 hd
  go_wp2_with fail
  have hbnT : ¬ (b = l ∨ W.heap.size ≤ b) := by have := HBL.out; omega
  have T0 : ∀ x : OnW (fun k => k = l ∨ W.heap.size ≤ k) w2, x.w.cell? ⟨b, 0, none⟩ = some (.int .i64 (1 : Int)) := fun x => (H2.out.only x.on hbnT).cell (j := 0) rfl
  have T13 : ∀ x : OnW (fun k => k = l ∨ W.heap.size ≤ k) w2, x.w.cell? ⟨b, 13, none⟩ = some (pAt l) := fun x => (H2.out.only x.on hbnT).cell (j := 13) rfl
  refine wp_region_mixO (fun k => k = l ∨ W.heap.size ≤ k) 11 (.one [0, 1, 2, 3, 4, 5, 6, 7, 8, 9] 10 (.done [])) (by kernel_rfl) (fun c d v a w h => by cases d <;> exact h) (by kernel_rfl) ?_
  simp only [wpMixT, pk_nil, pk_cons, pushAt_zero, pushAt_succ, List.drop_succ_cons, List.drop_zero]
  repeat (go_big_quiet_step (fail))
  refine wpQuiet_nil ?_
  clear T0 T13
  go_wp2_with fail
  have hd := (Below.refl w2.heap.size w2).drew
  refine (uaddB (B := W.heap.size) (R2.out.up hd) hs2 (by have := NL.out; omega) (by omega) NL.out.1 (V2.out.up hd) (L2.out.up hd)).mono ?_
  rintro r w3 ⟨rfl, v3, hv3, hl3, ho3⟩
  have ho3' : Only (fun k => k = l ∨ W.heap.size ≤ k) w2 w3 := ((Only.refl _ w2).drew).trans ho3
  have hs3 : W.heap.size ≤ w3.heap.size := Nat.le_trans hs2 ho3'.size
  go_wp2_with fail
  refine thenQ_normal ⟨⟨⟨_, ho3'⟩, rfl⟩, ?_⟩
  refine wpQuiet_nil ?_
  have H3 := Lib.hid (H2.out.only ho3' hbnT)
  have K3 := Lib.hid (K2.out.only ho3' (by omega))
  have R3 := Lib.hid (R2.out.only ho3' (fun k hk => by have := NL.out; omega))
  have O3 := Lib.hid (O2.out.trans ho3')
  have V3 := Lib.hid hv3
  have L3 := Lib.hid hl3
  clear hv3 hl3 ho3 ho3' R2 L2 V2 O2 H2 K2 hd hs2
  go_wp2_with fail
  have T13 : ∀ x : OnW (fun k => k = l ∨ W.heap.size ≤ k) w3, x.w.cell? ⟨b, 13, none⟩ = some (pAt l) := fun x => (H3.out.only x.on hbnT).cell (j := 13) rfl
  have CB : ∀ x : OnW (fun k => k = l ∨ W.heap.size ≤ k) w3, Blk x.w w.heap.size 119 _ := fun x => K3.out.only x.on (by omega)
  have b0 := fun x => (CB x).cell (j := 0) rfl
  have b1 := fun x => (CB x).cell (j := 1) rfl
  have b2 := fun x => (CB x).cell (j := 2) rfl
  have b3 := fun x => (CB x).cell (j := 3) rfl
  have b4 := fun x => (CB x).cell (j := 4) rfl
  have b5 := fun x => (CB x).cell (j := 5) rfl
  have b6 := fun x => (CB x).cell (j := 6) rfl
  have b7 := fun x => (CB x).cell (j := 7) rfl
  have b8 := fun x => (CB x).cell (j := 8) rfl
  clear CB
  refine wp_region_mixO (fun k => k = l ∨ W.heap.size ≤ k) 6 (.one [0, 1, 2, 3, 4] 5 (.done [])) (by kernel_rfl) (fun c d v a w h => by cases d <;> exact h) (by kernel_rfl) ?_
  simp only [wpMixT, pk_nil, pk_cons, pushAt_zero, pushAt_succ, List.drop_succ_cons, List.drop_zero]
  repeat (go_big_quiet_step (fail))
  refine wpQuiet_nil ?_
  clear T13 b0 b1 b2 b3 b4 b5 b6 b7 b8
  go_wp2_with fail
  have hd := (Below.refl w3.heap.size w3).drew
  refine (uaddC (B := W.heap.size) q HQ.out.1 HQ.out.2 (R3.out.up hd) hs3 (by have := NL.out; omega) (by omega) NL.out.1 (V3.out.up hd) (L3.out.up hd)).mono ?_
  rintro r w4 ⟨rfl, v4, hv4, hl4, ho4⟩
  have ho4' : Only (fun k => k = l ∨ W.heap.size ≤ k) w3 w4 := ((Only.refl _ w3).drew).trans ho4
  go_wp2_with fail
  refine thenQ_normal ⟨⟨⟨_, ho4'⟩, rfl⟩, ?_⟩
  refine wpQuiet_nil ?_
  go_wp2_with fail
  go_end0
  have hO : Only (fun k => k = b ∨ k = l) w w4 := (O1.out.mono (fun k hk => .inl hk)).then (O3.out.trans ho4') (fun k hk hlt => by rcases hk with hk | hk; exact .inr hk; omega)
  exact ⟨rfl, hO, H3.out.only ho4' hbnT, W.heap.size, v4, by omega, Nat.le_trans hs3 ho4'.size, hv4, hl4⟩
end
end Go.Proofs.YtnbccoelbfgmgaaGreatDoor
/- Package buffer: put into a new buffer. -/
namespace Go.Proofs.YtnbccoelbfgmgaaGreatDoor
open Go.RowKit
set_option linter.unusedVariables false
set_option linter.unusedSimpArgs false
/-- A buffer and its text. -/
structure BufT (w : World) (b g : Nat) (S : BS) (cs : List Nat) : Prop where
  blk : BufB w b S
  gap : GapR w S.t g cs
  hbt : b ≠ S.t
  hbg : b ≠ g
  h1 : 1 ≤ S.lo
  h2 : S.lo ≤ S.pt
  h3 : S.pt ≤ S.hi
  h4 : S.hi ≤ cs.length + 1
theorem BufT.r {w : World} {b g : Nat} {S : BS} {cs : List Nat} (h : BufT w b g S cs) : BufR w b cs S.pt S.lo S.hi :=
  ⟨S.t, g, h.blk.cell (j := 0) rfl, h.blk.cell (j := 1) rfl, h.blk.cell (j := 2) rfl, h.blk.cell (j := 9) rfl, h.gap, h.hbt, h.hbg, h.h1, h.h2, h.h3, h.h4⟩
theorem BufT.up {w w' : World} {b g : Nat} {S : BS} {cs : List Nat} (h : BufT w b g S cs) (hb : Below w.heap.size w w') : BufT w' b g S cs := ⟨h.blk.up hb, h.gap.up hb, h.hbt, h.hbg, h.h1, h.h2, h.h3, h.h4⟩
/-- The state behind the first insertion of n characters, point not yet moved. -/
abbrev insS (t m p o l : Nat) (lock : Int) (n pt : Nat) (em : Bool) : BS := ⟨pt, 1, 1 + n, 0, false, false, false, 1, 0, t, m, p, o, l, true, em, lock, .slice none 0 0, 0⟩
section
variable {w w' : World}
set_option maxRecDepth 100000 in
set_option maxHeartbeats 4000000 in
theorem put0_ok {N b t g l mm m p o : Nat} {lock pr ev : Int} (hT : Tabs N w) (hR : Rules N w) (h : Fr w N b t g l mm m p o lock pr ev) (s : ByteArray) (hs : s.size ≤ 10000) (hv : (charsD s.data.toList).isSome = true) (h0 : 0 < (chrs s).length) :
    Calls Tryz.prog 105 #[pAt b, .int .i64 1, .string s, .bool false] w fun r w' => r = .returned (.tuple #[]) ∧ Only (fun k => k = b ∨ k = l ∨ k = t ∨ k = p) w w' ∧ BufB w' b (insS t m p o l lock (chrs s).length 1 false) ∧
      (∃ g', w.heap.size ≤ g' ∧ GapR w' t g' (chrs s)) ∧ ∃ B v, w.heap.size ≤ B ∧ B ≤ w'.heap.size ∧ ROwn chC 119 9 B w' v [(6, 0, 0), (4, 1, 0), (1, 1, ((1 + (chrs s).length : Nat) : Int))] ∧ Blk w' l 173 (lgC (.slice none 0 0) v 3 3) := by
  have hlen := chrs_len s
  have hLn := runesLen s w (by omega) hT
  rw [rlenG_chars hv] at hLn
  obtain ⟨n, hn⟩ : ∃ n, n = (chrs s).length := ⟨_, rfl⟩
  rw [← hn] at hLn h0 hlen ⊢
  have HLn := Lib.hid hLn
  have HN := Lib.hid hn
  have HV := Lib.hid hv
  have HT := Lib.hid hT
  have HR := Lib.hid hR
  have H := Lib.hid h
  have hord := h.ord
  have hbw := h.blk.lt
  have d0 : ((n : Int) == 0) = false := by simp; omega
  have s1 : IntKind.i64.wrap (1 + (n : Int)) = ((1 + n : Nat) : Int) := by rw [IntWalk.i64_in _ (by omega)]; omega
  clear hLn hn hv hT hR h
  go_enter Tryz.func105, Tryz.ntmps105
  go_wp2_with fail
  refine HLn.out.mono ?_
  rintro e w1 ⟨rfl, hb1⟩
  have H1 := Lib.hid (H.out.up hb1)
  have R1 := Lib.hid (HR.out.up hb1)
  have T1 := Lib.hid (HT.out.up hb1)
  have B1 := Lib.hid hb1
  have z1 := hb1.size
  clear hb1 HLn H HR HT
  go_wp2_with fail
  refine (note0_ok R1.out H1.out.blk rfl rfl rfl rfl rfl (by show N ≤ l; omega) (by omega) (by show b ≠ l; omega) H1.out.log (1 + n) (by omega) (by omega)).mono ?_
  rintro e w2 ⟨rfl, ho2, hk2, B, v, hB1, hB2, hv2, hl2⟩
  have t2 := H1.out.txt.only ho2 (by show ¬ (t = b ∨ t = l); omega)
  have m2 : Mk0 w2 m mm := ⟨H1.out.mks.blk.only ho2 (by show ¬ (m = b ∨ m = l); omega), by
    obtain ⟨L, c, q2, e⟩ := H1.out.mks.im
    exact ⟨L, c, ⟨(ho2.block mm (Array.getElem?_eq_some_iff.1 q2.block).1 (by show ¬ (mm = b ∨ mm = l); omega)).trans q2.block, q2.keys, q2.borns, q2.old⟩, e⟩⟩
  have p2 := H1.out.prs.only ho2 (by show ¬ (p = b ∨ p = l); omega)
  have o2 := H1.out.ovs.only ho2 (by show ¬ (o = b ∨ o = l); omega)
  have T2 := Lib.hid (T1.out.only ho2 (fun k hk => by rcases hk with rfl | rfl <;> (try show N ≤ l) <;> omega))
  have z2 := ho2.size
  have K2 := Lib.hid (show BufB w2 b ⟨1, 1, 1, 0, false, false, false, 0, 0, t, m, p, o, l, true, false, lock, .slice none 0 0, 0⟩ from hk2)
  have L2 := Lib.hid hl2
  have V2 := Lib.hid hv2
  have TX := Lib.hid t2
  have MX := Lib.hid m2
  have PX := Lib.hid p2
  have OX := Lib.hid o2
  have O2 := Lib.hid ((Only.of_below B1.out).trans ho2)
  clear ho2 hk2 hv2 hl2 t2 m2 p2 o2 T1 R1 H1 B1
  have q9 := K2.out.cell (j := 9) rfl
  go_wp2_with fail
  refine (ginsert0 T2.out s hs HV.out TX.out (by omega) (by rw [← HN.out]; exact h0)).mono ?_
  rintro e w3 ⟨rfl, ho3, g', hg', hgap⟩
  have K3 := Lib.hid (K2.out.only ho3 (by show ¬ (b = t); omega))
  have L3 := Lib.hid (L2.out.only ho3 (by show ¬ (l = t); omega))
  have V3 := Lib.hid (V2.out.kept (fun k hk => ho3.block k (V2.out.lt hk) (by have := V2.out.base hk; show ¬ (k = t); omega)))
  have M3 := Lib.hid (show Mk0 w3 m mm from ⟨MX.out.blk.only ho3 (by show ¬ (m = t); omega), by
    obtain ⟨L, c, q2, e⟩ := MX.out.im
    exact ⟨L, c, ⟨(ho3.block mm (Array.getElem?_eq_some_iff.1 q2.block).1 (by show ¬ (mm = t); omega)).trans q2.block, q2.keys, q2.borns, q2.old⟩, e⟩⟩)
  have P3 := Lib.hid (PX.out.only ho3 (by show ¬ (p = t); omega))
  have X3 := Lib.hid (OX.out.only ho3 (by show ¬ (o = t); omega))
  have O3 := Lib.hid ((O2.out.mono (T := fun k => k = b ∨ k = l ∨ k = t ∨ k = p) (fun k hk => hk.elim .inl (fun h => .inr (.inl h)))).trans (ho3.mono (fun k hk => .inr (.inr (.inl hk)))))
  have G3 := Lib.hid hgap
  have z3 := ho3.size
  clear ho3 hgap K2 L2 V2 MX PX OX TX O2 T2 q9 HV
  have q10 := K3.out.cell (j := 10) rfl
  go_wp2_with fail
  refine (mins0 1 n false (by omega) (by omega) (by omega) (by omega) M3.out).mono ?_
  rintro e w4 ⟨rfl, hb4⟩
  have K4 := Lib.hid (K3.out.up hb4)
  have L4 := Lib.hid (L3.out.up hb4)
  have V4 := Lib.hid (V3.out.up hb4)
  have P4 := Lib.hid (P3.out.up hb4)
  have X4 := Lib.hid (X3.out.up hb4)
  have G4 := Lib.hid (G3.out.up hb4)
  have O4 := Lib.hid (O3.out.trans (Only.of_below hb4))
  have z4 := hb4.size
  clear hb4 K3 L3 V3 M3 P3 X3 O3 G3 q10
  have q11 := K4.out.cell (j := 11) rfl
  go_wp2_with fail
  refine (pins0 1 n (by omega) (by omega) (by omega) (by omega) P4.out).mono ?_
  rintro e w5 ⟨rfl, ho5, hp5⟩
  have K5 := Lib.hid (K4.out.only ho5 (by show ¬ (b = p); omega))
  have L5 := Lib.hid (L4.out.only ho5 (by show ¬ (l = p); omega))
  have V5 := Lib.hid (V4.out.kept (fun k hk => ho5.block k (V4.out.lt hk) (by have := V4.out.base hk; show ¬ (k = p); omega)))
  have X5 := Lib.hid (X4.out.only ho5 (by show ¬ (o = p); omega))
  have G5 := Lib.hid (G4.out.kept (w' := w5) (ho5.block t (by omega) (by show ¬ (t = p); omega)) (ho5.block g' (by obtain ⟨_, _, _, _, hh⟩ := G4.out; exact hh.hg) (by show ¬ (g' = p); omega)) ho5.size)
  have O5 := Lib.hid (O4.out.trans (ho5.mono (fun k hk => .inr (.inr (.inr hk)))))
  have z5 := ho5.size
  clear ho5 hp5 K4 L4 V4 P4 X4 O4 G4 q11
  have q12 := K5.out.cell (j := 12) rfl
  go_wp2_with fail
  refine (oins0 pr ev 1 n (by omega) (by omega) (by omega) (by omega) X5.out).mono ?_
  rintro e w6 ⟨rfl, hb6⟩
  have K6 := Lib.hid (K5.out.up hb6)
  have L6 := Lib.hid (L5.out.up hb6)
  have V6 := Lib.hid (V5.out.up hb6)
  have G6 := Lib.hid (G5.out.up hb6)
  have O6 := Lib.hid (O5.out.trans (Only.of_below hb6))
  have z6 := hb6.size
  clear hb6 K5 L5 V5 X5 O5 G5 q12
  go_wp2_with fail
  refine (inserted_ok 1 n (by omega) (by omega) w6).mono ?_
  rintro e w7 ⟨cp, rfl, hb7, hE⟩
  have K7 := Lib.hid (K6.out.up hb7)
  have L7 := Lib.hid (L6.out.up hb7)
  have V7 := Lib.hid (V6.out.up hb7)
  have G7 := Lib.hid (G6.out.up hb7)
  have O7 := Lib.hid (O6.out.trans (Only.of_below hb7))
  have z7 := hb7.size
  have E7 := Lib.hid hE
  clear hb7 hE K6 L6 V6 G6 O6
  go_wp2_with fail
  refine (moves0_ok K7.out rfl E7.out false (by show 1 ≤ 2000000; omega) (by show 1 ≤ 2000000; omega) (by show 1 ≤ 2000000; omega) (by show 0 ≤ 2000000; omega) 1 1 (1 + n) 0 (by simp [insF]) (by simp [insF]) (by simp [insF]) (by simp [insF])).mono ?_
  rintro e w8 ⟨rfl, ho8, hk8⟩
  have K8 := Lib.hid (show BufB w8 b ⟨1, 1, 1 + n, 0, false, false, false, 0, 0, t, m, p, o, l, true, false, lock, .slice none 0 0, 0⟩ from hk8)
  have L8 := Lib.hid (L7.out.only ho8 (by show ¬ (l = b); omega))
  have V8 := Lib.hid (V7.out.kept (fun k hk => ho8.block k (V7.out.lt hk) (by have := V7.out.base hk; show ¬ (k = b); omega)))
  have G8 := Lib.hid (G7.out.kept (w' := w8) (ho8.block t (by omega) (by show ¬ (t = b); omega)) (ho8.block g' (by obtain ⟨_, _, _, _, hh⟩ := G7.out; exact hh.hg) (by show ¬ (g' = b); omega)) ho8.size)
  have O8 := Lib.hid (O7.out.trans (ho8.mono (fun k hk => .inl hk)))
  have z8 := ho8.size
  clear ho8 hk8 K7 L7 V7 G7 O7 E7
  have q7 : w8.cell? ⟨b, 7, none⟩ = some (.int .i64 0) := K8.out.cell (j := 7) rfl
  have f7 := K8.out.fz 7
  go_wp2_with fail
  go_end0
  have hk9 := K8.out.set (j := 7) (by simp) (.int .i64 1)
  refine ⟨rfl, O8.out.setCell (p := ⟨b, 7, none⟩) (.inl rfl) _, hk9, ⟨g', by omega, ?_⟩, B, v, by omega, ?_, ?_, ?_⟩
  · rw [HN.out] at *
    exact G8.out.kept (Below.heap_setCell _ _ _ _ (by show t ≠ b; omega)) (Below.heap_setCell _ _ _ _ (by show g' ≠ b; omega)) (by simp)
  · simp; omega
  · exact V8.out.kept (fun k hk => Below.heap_setCell _ _ _ _ (by have := V8.out.base hk; show k ≠ b; omega))
  · exact L8.out.kept (Below.heap_setCell _ _ _ _ (by show l ≠ b; omega))
end
end Go.Proofs.YtnbccoelbfgmgaaGreatDoor
/- Package undo: close and Boundary behind the first insertion. -/
namespace Go.Proofs.YtnbccoelbfgmgaaGreatDoor
open Go.RowKit
set_option linter.unusedVariables false
set_option linter.unusedSimpArgs false
/-- A slice of changes as an element. -/
abbrev encG (x : Option Addr × Nat × Nat) : List Value := [.slice x.1 x.2.1 x.2.2]
theorem eltG : Elt encG 171 113 1 24 (.slice none 0 0) := ⟨Tryz.underlying171, by kernel_rfl, rfl, by omega, fun _ => rfl, fun x u hu => by simp at hu; rcases hu with rfl; rfl⟩
section
variable {w w' : World}
set_option maxRecDepth 100000 in
set_option maxHeartbeats 2000000 in
theorem uclose1 {l cap L : Nat} {A : Option Addr} (hL : L = 3) (h : Blk w l 173 (lgC (.slice none 0 0) (.slice A L cap) 3 3)) :
    Calls Tryz.prog 117 #[pAt l] w fun r w' => r = .returned (.tuple #[]) ∧ Only (fun k => k = l) w w' := by
  have hl := h.lt
  have C1 : ∀ x : UpW w.heap.size w, x.w.cell? ⟨l, 1, none⟩ = some (.slice none 0 0) := fun x => (h.up x.up).cell (j := 1) rfl
  have C2 : ∀ x : UpW w.heap.size w, x.w.cell? ⟨l, 2, none⟩ = some (.slice A L cap) := fun x => (h.up x.up).cell (j := 2) rfl
  have c2 := h.cell (j := 2) rfl
  have d0 : (0 < L) = True := by simp; omega
  clear hL
  have H := Lib.hid h
  clear h
  go_enter Tryz.func117, Tryz.ntmps117
  go_wp2_with fail
  clear c2
  obtain ⟨v', w3, happ, hown3, hb3, ho3, hblk3⟩ := append_elem eltG (B := w.heap.size) (w := w.drew) (ROwn.nil _ _ : ROwn encG 113 1 w.heap.size w.drew (.slice none 0 0) []) (Nat.le_refl _) (A, L, cap) (by simp) (by omega)
  have hb3' : Below w.heap.size w w3 := ((Below.refl w.heap.size w).drew).trans hb3
  obtain ⟨A3, cap3, rfl, _, _, _⟩ := hown3.shape eltG
  have HP := Lib.hid happ
  clear happ hown3 hb3 ho3 hblk3
  refine wp_region_mixS (fun k => k = l) [15, 18, 21] (.one [(0, true), (1, false), (2, false), (3, true), (4, true), (5, true), (6, true), (7, true), (8, true), (9, true), (10, true)] 11 (.one [] 12 (.one [(13, false), (14, true)] 15 (.one [(16, false), (17, false)] 18 (.one [(19, false), (20, false)] 21 (.done [])))))) (by kernel_rfl) (fun c d v a w h => by cases d <;> exact h) (by kernel_rfl) ?_
  simp only [wpMixS, wpQ2, pk_nil, pk_cons, pushAt_zero, pushAt_succ, List.contains_cons, List.contains_nil, Bool.false_or, Bool.or_false, Bool.true_or, Bool.or_true, Nat.reduceBEq, Nat.reduceEqDiff]
  repeat (first | go_big_quiet_step (fail) | refine wpQuiet_nil ?_)
  clear C1 C2
  go_wp2_with fail
  refine thenQ_normal ⟨⟨⟨_, (Below.refl _ w).drew.alloc (Nat.le_refl _) _⟩, rfl⟩, ?_⟩
  refine wpList_app_run rfl _ _ _ rfl rfl rfl HP.out ?_
  go_wp2_with fail
  refine thenQ_normal ⟨⟨⟨_, hb3'⟩, rfl⟩, ?_⟩
  repeat (first | go_big_quiet_step (fail) | refine wpQuiet_nil ?_)
  have h3 := H.out.up hb3'
  have ho : Only (fun k => k = l) w w3 := Only.of_below hb3'
  have k1 := h3.cell (j := 1) rfl
  have k2 := h3.cell (j := 2) rfl
  have k5 := h3.cell (j := 5) rfl
  have f1 := h3.fz 1
  have f2 := h3.fz 2
  have f5 := h3.fz 5
  have hs0 : Blk (((w3.setCell ⟨l, 1, none⟩ (.slice A3 1 cap3)).setCell ⟨l, 2, none⟩ (.slice none 0 0)).setCell ⟨l, 5, none⟩ (.int .i64 0)) l 173 (lgC (.slice A3 1 cap3) (.slice none 0 0) 3 0) :=
    ((h3.set (j := 1) (by simp) (.slice A3 1 cap3)).set (j := 2) (by simp) (.slice none 0 0)).set (j := 5) (by simp) (.int .i64 0)
  have HS := Lib.hid hs0
  clear hs0 h3
  go_wp2_with fail
  refine thenQ_normal ⟨⟨⟨_, ho.setCell (p := ⟨l, 1, none⟩) rfl _⟩, rfl⟩, ?_⟩
  repeat (first | go_big_quiet_step (fail) | refine wpQuiet_nil ?_)
  go_wp2_with fail
  refine thenQ_normal ⟨⟨⟨_, (ho.setCell (p := ⟨l, 1, none⟩) rfl _).setCell (p := ⟨l, 2, none⟩) rfl _⟩, rfl⟩, ?_⟩
  repeat (first | go_big_quiet_step (fail) | refine wpQuiet_nil ?_)
  go_wp2_with fail
  refine thenQ_normal ⟨⟨⟨_, ((ho.setCell (p := ⟨l, 1, none⟩) rfl _).setCell (p := ⟨l, 2, none⟩) rfl _).setCell (p := ⟨l, 5, none⟩) rfl _⟩, rfl⟩, ?_⟩
  have HO := Lib.hid (((ho.setCell (p := ⟨l, 1, none⟩) rfl (.slice A3 1 cap3)).setCell (p := ⟨l, 2, none⟩) rfl (.slice none 0 0)).setCell (p := ⟨l, 5, none⟩) rfl (.int .i64 0))
  clear k1 k2 k5 f1 f2 f5 ho HP H hb3'
  generalize ((w3.setCell ⟨l, 1, none⟩ (.slice A3 1 cap3)).setCell ⟨l, 2, none⟩ (.slice none 0 0)).setCell ⟨l, 5, none⟩ (.int .i64 0) = W at *
  have c0 := HS.out.cell (j := 0) rfl
  have c4 := HS.out.cell (j := 4) rfl
  go_wp2_with fail
  go_loopw [3] (fun _ wr => W = wr) (fun _ _ => 0)
  case atStart => rfl
  case round =>
    subst hrel
    go_wp2_with fail
    go_region
    go_wp2_with fail
    go_end0
    exact ⟨rfl, HO.out.drew⟩
set_option maxRecDepth 100000 in
set_option maxHeartbeats 2000000 in
theorem uclose0 {l : Nat} (h : Blk w l 173 (lgC (.slice none 0 0) (.slice none 0 0) 0 0)) :
    Calls Tryz.prog 117 #[pAt l] w fun r w' => r = .returned (.tuple #[]) ∧ Only (fun k => k = l) w w' := by
  have c0 := h.cell (j := 0) rfl
  have c2 := h.cell (j := 2) rfl
  have c4 := h.cell (j := 4) rfl
  clear h
  go_enter Tryz.func117, Tryz.ntmps117
  go_wp2_with fail
  go_loopw [3] (fun _ wr => w = wr) (fun _ _ => 0)
  case atStart => rfl
  case round =>
    subst hrel
    go_wp2_with fail
    go_region
    go_wp2_with fail
    go_end0
    exact ⟨rfl, (Only.refl _ w).drew⟩
/-- The log of a new buffer, before or behind its first change. -/
def LogF (w : World) (l : Nat) : Prop := Blk w l 173 (lgC (.slice none 0 0) (.slice none 0 0) 0 0) ∨ ∃ A cap, Blk w l 173 (lgC (.slice none 0 0) (.slice A 3 cap) 3 3)
theorem uclose_ok {l : Nat} (h : LogF w l) : Calls Tryz.prog 117 #[pAt l] w fun r w' => r = .returned (.tuple #[]) ∧ Only (fun k => k = l) w w' := by
  rcases h with h | ⟨A, cap, h⟩
  · exact uclose0 h
  · exact uclose1 rfl h
theorem LogF.up {l : Nat} (h : LogF w l) (hb : Below w.heap.size w w') : LogF w' l := by
  rcases h with h | ⟨A, cap, h⟩
  · exact .inl (h.up hb)
  · exact .inr ⟨A, cap, h.up hb⟩
theorem LogF.none {l : Nat} (h : LogF w l) : Calls Tryz.prog 116 #[pAt l] w fun e w' => e = .returned (.bool false) ∧ w = w' := by
  rcases h with h | ⟨A, cap, h⟩
  · exact unone _ _ _ _ h
  · exact unone _ _ _ _ h
set_option maxHeartbeats 1000000 in
theorem ubound_ok {l : Nat} (h : LogF w l) : Calls Tryz.prog 71 #[pAt l] w fun r w' => r = .returned (.int .i64 0) ∧ Only (fun k => k = l) w w' := by
  have HN := Lib.hid h.none
  have HC := Lib.hid (uclose_ok h)
  clear h
  go_enter Tryz.func71, Tryz.ntmps71
  go_wp2_with fail
  refine HN.out.mono ?_
  rintro e w' ⟨rfl, rfl⟩
  go_wp2_with fail
  refine HC.out.mono ?_
  rintro e w' ⟨rfl, ho⟩
  go_wp2_with fail
  go_ret
  exact ⟨rfl, ho⟩
end
end Go.Proofs.YtnbccoelbfgmgaaGreatDoor
/- Package buffer: gapOpen. -/
namespace Go.Proofs.YtnbccoelbfgmgaaGreatDoor
open Go.RowKit
set_option linter.unusedVariables false
set_option linter.unusedSimpArgs false
def gapB (S : BS) (f : Int → Int → Option (Int × Int)) (at_ : Int) : Bool := S.fo || (!S.ro && !(lockB (f at_ S.lock) && lockB (f (at_ - 1) S.lock)))
section
variable {w w' : World} {b : Nat} {S : BS} {f : Int → Int → Option (Int × Int)}
set_option maxRecDepth 100000 in
set_option maxHeartbeats 2000000 in
theorem gapOpen1_ok {k0 k1 : Nat} (h : BufB w b S) (hG : GetAt w S.p f) (at_ : Int) (ha0 : 0 ≤ at_) (ha1 : at_ ≤ 1000000000) (h0 : w.cell? ⟨k0, 0, none⟩ = some (pAt b)) (h1 : w.cell? ⟨k1, 0, none⟩ = some (.int .i64 at_)) :
    Calls Tryz.prog 149 #[pAt k0, pAt k1] w fun r w2 => r = .returned (.bool (gapB S f at_)) ∧ Below w.heap.size w w2 := by
  have c5 : w.cell? ⟨b, 5, none⟩ = some (.bool S.ro) := h.cell (j := 5) rfl
  have c6 : w.cell? ⟨b, 6, none⟩ = some (.bool S.fo) := h.cell (j := 6) rfl
  have HB := Lib.hid h
  have HG := Lib.hid hG
  have HH0 := Lib.hid h0
  have HH1 := Lib.hid h1
  have s1 : IntKind.i64.wrap (at_ - 1) = at_ - 1 := IntWalk.i64_in _ (by omega)
  clear h hG ha0 ha1
  obtain ⟨R, hR⟩ : ∃ R, gapB S f at_ = R := ⟨_, rfl⟩
  rw [hR]
  unfold gapB at hR
  cases hf : S.fo with
  | true =>
    rw [hf] at c6 hR
    have hRt : R = true := by rw [← hR]; rfl
    subst hRt
    clear hR
    go_enter Tryz.func149, Tryz.ntmps149
    go_wp2_with fail
    go_ret
    exact ⟨rfl, Below.refl _ _⟩
  | false =>
    rw [hf] at c6 hR
    cases hr : S.ro with
    | true =>
      rw [hr] at c5 hR
      have hRt : R = false := by rw [← hR]; rfl
      subst hRt
      clear hR
      go_enter Tryz.func149, Tryz.ntmps149
      go_wp2_with fail
      go_ret
      exact ⟨rfl, Below.refl _ _⟩
    | false =>
      rw [hr] at c5 hR
      have HL := Lib.hid (locked_ok HB.out HG.out at_)
      cases hl : lockB (f at_ S.lock) with
      | false =>
        rw [hl] at hR HL
        have hRt : R = true := by rw [← hR]; rfl
        subst hRt
        clear hR
        go_enter Tryz.func149, Tryz.ntmps149
        go_wp2_with fail
        refine HL.out.mono ?_
        rintro r w1 ⟨rfl, hb1⟩
        go_wp2_with fail
        go_ret
        exact ⟨rfl, hb1⟩
      | true =>
        rw [hl] at hR HL
        cases hl2 : lockB (f (at_ - 1) S.lock) with
        | false =>
          rw [hl2] at hR
          have hRt : R = true := by rw [← hR]; rfl
          have HL2 := Lib.hid hl2
          subst hRt
          clear hR
          go_enter Tryz.func149, Tryz.ntmps149
          go_wp2_with fail
          refine HL.out.mono ?_
          rintro r w1 ⟨rfl, hb1⟩
          have g0 := cell_up HH0.out hb1
          have g1 := cell_up HH1.out hb1
          have hc := locked_ok (HB.out.up hb1) (HG.out.up hb1) (at_ - 1)
          rw [HL2.out] at hc
          go_wp2_with fail
          refine hc.mono ?_
          rintro r w2 ⟨rfl, hb2⟩
          go_wp2_with fail
          go_ret
          exact ⟨rfl, up2 hb1 hb2⟩
        | true =>
          rw [hl2] at hR
          have hRt : R = false := by rw [← hR]; rfl
          have HL2 := Lib.hid hl2
          subst hRt
          clear hR
          go_enter Tryz.func149, Tryz.ntmps149
          go_wp2_with fail
          refine HL.out.mono ?_
          rintro r w1 ⟨rfl, hb1⟩
          have g0 := cell_up HH0.out hb1
          have g1 := cell_up HH1.out hb1
          have hc := locked_ok (HB.out.up hb1) (HG.out.up hb1) (at_ - 1)
          rw [HL2.out] at hc
          go_wp2_with fail
          refine hc.mono ?_
          rintro r w2 ⟨rfl, hb2⟩
          go_wp2_with fail
          go_ret
          exact ⟨rfl, up2 hb1 hb2⟩
set_option maxHeartbeats 1000000 in
theorem gapOpen_ok (h : BufB w b S) (hG : GetAt w S.p f) (at_ : Int) : Calls Tryz.prog 103 #[pAt b, .int .i64 at_] w fun r w' =>
    ∃ ke kf, r = .returned (unlC ke kf (if gapB S f at_ then 0 else 14)).val ∧ Below w.heap.size w w' ∧ ChkAt w' (0 ≤ at_ ∧ at_ ≤ 1000000000) (unlC ke kf (if gapB S f at_ then 0 else 14)) := by
  have HB := Lib.hid h
  have HG := Lib.hid hG
  clear h hG
  obtain ⟨E, hE⟩ : ∃ E : Int, (if gapB S f at_ then (0 : Int) else 14) = E := ⟨_, rfl⟩
  rw [hE]
  have HE := Lib.hid hE
  clear hE
  go_enter Tryz.func103, Tryz.ntmps103
  go_wp2_with fail
  have hb3 := below2 w (.cells #[pAt b] 26) (.cells #[.int .i64 at_] 3)
  obtain ⟨a0, a1⟩ := al2 w (pAt b) (.int .i64 at_) 26 3
  generalize (w.alloc (.cells #[pAt b] 26)).alloc (.cells #[.int .i64 at_] 3) = W at *
  refine (unless_ok 14 149 #[] #[pAt w.heap.size, pAt (w.heap.size + 1)] W).mono ?_
  rintro r w1 ⟨rfl, hb1, he, hf⟩
  go_wp2_with fail
  go_ret
  refine ⟨_, _, rfl, up2 hb3 hb1, HE.out ▸ ChkAt.unless (p := gapB S f at_) (enters_mk Tryz.func149 (by kernel_rfl) rfl) he hf fun hp w2 hb2 => ?_⟩
  exact gapOpen1_ok (((HB.out.up hb3).up hb1).up hb2) (((HG.out.up hb3).up hb1).up hb2) at_ hp.1 hp.2 (cell_up a0 (up2 hb1 hb2)) (cell_up a1 (up2 hb1 hb2))
end
end Go.Proofs.YtnbccoelbfgmgaaGreatDoor
