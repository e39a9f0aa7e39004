import Derived.Test.YtcfdalmllegefaaGreatDoorZ07
import Derived.Test.YtcfdalmllegefaaGreatDoorZ03
import Derived.Test.YtcfdalmllegefaaGreatDoorZ06
import Derived.Test.YtcfdalmllegefaaGreatDoorZ01
/- buffer.New. -/
namespace Go.Proofs.YtcfdalmllegefaaGreatDoor
open Go.RowKit
set_option linter.unusedVariables false
set_option linter.unusedSimpArgs false
abbrev freshS (t m p o l : Nat) (lock : Int) : BS := ⟨1, 1, 1, 0, false, false, false, 0, 0, t, m, p, o, l, true, true, lock, .slice none 0 0, 0⟩
/-- A new buffer at block b. -/
structure Fr (w : World) (N b t g l mm m p o : Nat) (lock pr ev : Int) : Prop where
  blk : BufB w b (freshS t m p o l lock)
  txt : Blk w t 192 (txtC g 0 0 0 0 (.slice none 0 0))
  log : Blk w l 197 (lgC (.slice none 0 0) (.slice none 0 0) 0 0)
  mks : Mk0 w m mm
  prs : Blk w p 203 prC
  ovs : Blk w o 206 (ovC pr ev)
  ord : N ≤ g ∧ g < t ∧ t < l ∧ l < mm ∧ mm < m ∧ m < p ∧ p < o ∧ o < b
section
variable {w w' : World}
theorem Fr.up {N b t g l mm m p o : Nat} {lock pr ev : Int} (h : Fr w N b t g l mm m p o lock pr ev) (hb : Below w.heap.size w w') : Fr w' N b t g l mm m p o lock pr ev :=
  ⟨h.blk.up hb, h.txt.up hb, h.log.up hb, h.mks.up hb, h.prs.up hb, h.ovs.up hb, h.ord⟩
set_option maxRecDepth 100000 in
set_option maxHeartbeats 2000000 in
theorem bufNew {N : Nat} (hT : Tabs N w) (hN : N ≤ w.heap.size) (pr ev lock : Int) : Calls Tryz.prog 41 #[.int .i64 pr, .int .i64 ev, .int .i64 lock] w fun e w' =>
    ∃ b t g l mm m p o, e = .returned (pAt b) ∧ Below w.heap.size w w' ∧ Fr w' w.heap.size b t g l mm m p o lock pr ev := by
  have HT := Lib.hid hT
  clear hT
  go_enter Tryz.func41, Tryz.ntmps41
  go_wp2_with fail
  refine (gapNew0 HT.out hN).mono ?_
  rintro e w1 ⟨g, t, rfl, hb1, hg1, hg2, ht1⟩
  have htl := ht1.lt
  have T1 := Lib.hid ht1
  have B1 := Lib.hid hb1
  clear hb1 ht1
  go_wp2_with fail
  refine (undo_new w1).mono ?_
  rintro e w2 ⟨rfl, hb2, hs2, hl2⟩
  replace hs2 := Nat.le_of_eq hs2.symm
  have T2 := Lib.hid (T1.out.up hb2)
  have B2 := Lib.hid (up2 B1.out hb2)
  have L2 := Lib.hid hl2
  clear hb2 hl2 T1 B1
  generalize w1.heap.size = l at *
  go_wp2_with fail
  refine (marks_new w2).mono ?_
  rintro e w3 ⟨rfl, hb3, hs3, hm3, hmm3⟩
  replace hs3 := Nat.le_of_eq hs3.symm
  have T3 := Lib.hid (T2.out.up hb3)
  have B3 := Lib.hid (up2 B2.out hb3)
  have L3 := Lib.hid (L2.out.up hb3)
  have M3 := Lib.hid (Mk0.made hm3 hmm3)
  clear hb3 hm3 hmm3 T2 B2 L2
  generalize w2.heap.size = mm at *
  go_wp2_with fail
  refine (props_new w3).mono ?_
  rintro e w4 ⟨rfl, hb4, hs4, hp4⟩
  replace hs4 := Nat.le_of_eq hs4.symm
  have T4 := Lib.hid (T3.out.up hb4)
  have B4 := Lib.hid (up2 B3.out hb4)
  have L4 := Lib.hid (L3.out.up hb4)
  have M4 := Lib.hid (M3.out.up hb4)
  have P4 := Lib.hid hp4
  clear hb4 hp4 T3 B3 L3 M3
  generalize w3.heap.size = p at *
  go_wp2_with fail
  refine (overs_new w4 pr ev).mono ?_
  rintro e w5 ⟨rfl, hb5, hs5, ho5⟩
  replace hs5 := Nat.le_of_eq hs5.symm
  have T5 := Lib.hid (T4.out.up hb5)
  have B5 := Lib.hid (up2 B4.out hb5)
  have L5 := Lib.hid (L4.out.up hb5)
  have M5 := Lib.hid (M4.out.up hb5)
  have P5 := Lib.hid (P4.out.up hb5)
  have O5 := Lib.hid ho5
  clear hb5 ho5 T4 B4 L4 M4 P4
  generalize w4.heap.size = o at *
  go_wp2_with fail
  go_ret
  have hb6 := below1 w5 (.cells (bufC (freshS t (mm + 1) p o l lock)) 116)
  have hk6 := Blk.made w5 116 (bufC (freshS t (mm + 1) p o l lock))
  exact ⟨w5.heap.size, t, g, l, mm, mm + 1, p, o, rfl, up2 B5.out hb6, hk6, T5.out.up hb6, L5.out.up hb6, M5.out.up hb6, P5.out.up hb6, O5.out.up hb6, by omega⟩
end
end Go.Proofs.YtcfdalmllegefaaGreatDoor
/- A region that draws its order, loads at first and stores at last to what it has loaded: pure operations first; the stores wait for the loads. -/
namespace Go.Proofs.YtcfdalmllegefaaGreatDoor
open Go.RowKit
set_option linter.unusedVariables false
inductive PlanS where
  | done (last : List (Nat × Bool))
  | one (seg : List (Nat × Bool)) (i : Nat) (r : PlanS)
section
variable {P : Program} {md : Region.Mode} {ops : Array Oper} {S : Array Bool → World → Prop} {Q : Exit → Act → World → Prop}
def headS (P : Program) (md : Region.Mode) (ops : Array Oper) (S : Array Bool → World → Prop) (Q : Exit → Act → World → Prop) : Nat → Array Bool → Act → World → Prop
  | 0, listed, a, w => Region.ready md ops listed = [] ∧ Q .normal a w
  | f + 1, listed, a, w => Region.ready md ops listed ≠ [] ∧ ∀ i ∈ Region.ready md ops listed, wpOp P ops Q i (fun a' w' => S (listed.setIfInBounds i true) w' ∧ headS P md ops S Q f (listed.setIfInBounds i true) a' w') a w
theorem any_of_headS : ∀ (f : Nat) (listed : Array Bool) (a : Act) (w : World), headS P md ops S Q f listed a w → wpAny P md ops Q f listed a w
  | 0, listed, a, w, h => ⟨h.1, h.2⟩
  | f + 1, listed, a, w, h => ⟨fun h0 => absurd h0 h.1, fun i hi => wpOp_mono (fun a' w' h' => any_of_headS f _ a' w' h'.2) (h.2 i hi)⟩
theorem headS_first {i : Nat} {oi : Oper} {v : Value} {C : World → Prop} (hi : ops[i]? = some oi) (hsel : ∀ (j : Nat) (o : Oper) cs b, ops[j]? = some o → o.op ≠ .select cs b)
    (hQ : ∀ c a w, Q (.panic c) (a.put oi.dst v) w → Q (.panic c) a w) (hSi : ∀ listed w, S (listed.setIfInBounds i true) w ↔ S listed w)
    (hC : ∀ listed w, HeadInv md ops ops.size listed → listed.getD i true = false → S listed w → C w) :
    ∀ (f : Nat) (listed : Array Bool) (a : Act) (w : World), HeadInv md ops ops.size listed →
      (∀ j oj, ops[j]? = some oj → j ≠ i → listed.getD j true = false → (∀ e ∈ oj.after, Region.binds md e = true → e.on ≠ i) → oi.apart ops oj = true) →
      i ∈ Region.ready md ops listed → YieldsIf P ops C oi v a → S listed w → headS P md ops S Q f (listed.setIfInBounds i true) (a.put oi.dst v) w → headS P md ops S Q (f + 1) listed a w := by
  intro f
  induction f with
  | zero =>
    intro listed a w inv _ hr hy hS H
    have hun := (mem_ready.1 hr).1
    refine ⟨fun h => (by rw [h] at hr; cases hr), fun j hj => ?_⟩
    by_cases hji : j = i
    · subst hji; exact hy.wpOp hi (hC _ _ inv hun hS) ⟨(hSi _ _).2 hS, H⟩
    · have := ready_mono hj hji
      rw [H.1] at this
      cases this
  | succ f ih =>
    intro listed a w inv hfree hr hy hS H
    have hun := (mem_ready.1 hr).1
    refine ⟨fun h => (by rw [h] at hr; cases hr), fun j hj => ?_⟩
    by_cases hji : j = i
    · subst hji; exact hy.wpOp hi (hC _ _ inv hun hS) ⟨(hSi _ _).2 hS, H⟩
    · have h1 := H.2 j (ready_mono hj hji)
      obtain ⟨hjun, oj, hoj, hall⟩ := mem_ready.1 hj
      have hjn : j < ops.size := (Array.getElem?_eq_some_iff.1 hoj).1
      have hnot : ∀ e ∈ oj.after, Region.binds md e = true → e.on ≠ i := fun e he hb heq => by
        have h1 := hall e he hb
        rw [heq, getD_both hun] at h1
        cases h1
      have h2 := wpOp_putIf hoj (hfree j oj hoj hji hjun hnot) (fun cs b => hsel i oi cs b hi) (fun cs b => hsel j oj cs b hoj) hQ hy h1
      refine wpOp_mono (fun a' w' h3 => ?_) h2
      obtain ⟨h3y, h3s, h3h⟩ := h3
      rw [Array.setIfInBounds_comm _ _ (Ne.symm hji)] at h3s h3h
      have hs' := (hSi _ _).1 h3s
      refine ⟨hs', ih (listed.setIfInBounds j true) a' w' (inv.set hj hjn) (fun k ok hk hki hun' hno => hfree k ok hk hki ?_ hno) (ready_mono hr (Ne.symm hji)) h3y hs' h3h⟩
      by_cases hjk : j = k
      · subst hjk; exact hjun
      · rw [getD_set_ne true hjk] at hun'; exact hun'
/-! ### two classes of worlds: S0 till the first late operation, S1 behind -/
variable {S0 S1 : World → Prop} {late : List Nat}
def SS (S0 S1 : World → Prop) (late : List Nat) (listed : Array Bool) (w : World) : Prop := S1 w ∧ ((∀ k ∈ late, listed.getD k true = false) → S0 w)
def wpQ2 (P : Program) (l : List Oper) (S0 S1 : World → Prop) (K : Act → Prop) : List (Nat × Bool) → Act → Prop
  | [], a => K a
  | (i, true) :: r, a => wpQuiet P l.toArray S0 (fun a' => wpQ2 P l S0 S1 K r a') (pk l [i]) a
  | (i, false) :: r, a => wpQuiet P l.toArray S1 (fun a' => wpQ2 P l S0 S1 K r a') (pk l [i]) a
def wpMixS (P : Program) (l : List Oper) (S0 S1 : World → Prop) (late : List Nat) (Q : Exit → Act → World → Prop) : PlanS → Bool → Act → World → Prop
  | .done last, st, a, w => wpQ2 P l S0 S1 (fun a' => Q .normal a' w) last a
  | .one seg i r, st, a, w => wpQ2 P l S0 S1 (fun a' => wpList P l.toArray (thenQ Q fun a'' w'' => (match (st || late.contains i) with | true => S1 w'' | false => S0 w'') ∧ wpMixS P l S0 S1 late Q r (st || late.contains i) a'' w'') (pk l [i]) a' w) seg a
def earlyB (md : Region.Mode) (l : List Oper) (late : List Nat) (i : Nat) : Bool := late.all fun k => match l[k]? with
  | some o => o.after.any fun e => Region.binds md e && (e.on == i)
  | none => false
def segSB (md : Region.Mode) (l : List Oper) (late : List Nat) : List (Nat × Bool) → Array Bool → Option (Array Bool)
  | [], listed => some listed
  | (i, b) :: r, listed => if ((l[i]?).map pureOp).getD false && (Region.ready md l.toArray listed).contains i && Region.free md l.toArray listed i && !late.contains i && (!b || earlyB md l late i) then segSB md l late r (listed.setIfInBounds i true) else none
def cntS : PlanS → Nat
  | .done last => last.length
  | .one seg _ r => seg.length + 1 + cntS r
def mixSB (md : Region.Mode) (l : List Oper) (late : List Nat) : PlanS → Array Bool → Bool
  | .done last, listed => match segSB md l late last listed with
    | none => false
    | some l' => decide (Region.ready md l.toArray l' = [])
  | .one seg i r, listed => match segSB md l late seg listed with
    | none => false
    | some l' => decide (Region.ready md l.toArray l' = [i]) && mixSB md l late r (l'.setIfInBounds i true)
def mixSAll (l : List Oper) (late : List Nat) (plan : PlanS) : Bool := Region.noSelect l.toArray && decide (cntS plan = l.length) && mixSB .any l late plan (Array.replicate l.length false)
theorem segS_headS {l : List Oper} (hsel : Region.noSelect l.toArray = true) (hQ : ∀ c d v a w, Q (.panic c) (Act.put a d v) w → Q (.panic c) a w) (h01 : ∀ w, S0 w → S1 w) :
    ∀ (seg : List (Nat × Bool)) (listed l' : Array Bool) (f : Nat) (K : Act → Prop) (a : Act) (w : World), HeadInv md l.toArray l.toArray.size listed → segSB md l late seg listed = some l' → SS S0 S1 late listed w → wpQ2 P l S0 S1 K seg a →
      (HeadInv md l.toArray l.toArray.size l' → SS S0 S1 late l' w → (∀ k ∈ late, l'.getD k true = listed.getD k true) → ∀ a', K a' → headS P md l.toArray (SS S0 S1 late) Q f l' a' w) → headS P md l.toArray (SS S0 S1 late) Q (seg.length + f) listed a w
  | [], listed, l', f, K, a, w, inv, hB, hS, h, hK => by
    simp only [segSB, Option.some.injEq] at hB
    subst hB
    rw [List.length_nil, Nat.zero_add]
    exact hK inv hS (fun _ _ => rfl) a h
  | (i, b) :: seg, listed, l', f, K, a, w, inv, hB, hS, h, hK => by
    unfold segSB at hB
    split at hB
    · rename_i hc
      simp only [Bool.and_eq_true, Bool.or_eq_true, Bool.not_eq_true'] at hc
      obtain ⟨⟨⟨⟨hp, hr⟩, hf⟩, hnl⟩, hb⟩ := hc
      cases ho : l[i]? with
      | none => rw [ho] at hp; simp at hp
      | some o =>
        rw [ho] at hp
        have hp' : pureOp o = true := by simpa using hp
        have ho' : l.toArray[i]? = some o := by simpa using ho
        have hin : i < l.toArray.size := (Array.getElem?_eq_some_iff.1 ho').1
        have hr' : i ∈ Region.ready md l.toArray listed := by simpa using hr
        have hni : i ∉ late := by simpa using hnl
        have e : pk l [i] = [o] := by rw [pk_cons, pushAt_eq _ _ _ ho]; rfl
        have hSi : ∀ (ls : Array Bool) (w : World), SS S0 S1 late (ls.setIfInBounds i true) w ↔ SS S0 S1 late ls w := fun ls w => by
          have hk : ∀ k ∈ late, (ls.setIfInBounds i true).getD k true = ls.getD k true := fun k hk => getD_set_ne true (fun e => hni (e ▸ hk))
          unfold SS
          constructor
          · rintro ⟨h1, h2⟩
            exact ⟨h1, fun h3 => h2 fun k hk' => by rw [hk k hk']; exact h3 k hk'⟩
          · rintro ⟨h1, h2⟩
            exact ⟨h1, fun h3 => h2 fun k hk' => by rw [← hk k hk']; exact h3 k hk'⟩
        have hlk : ∀ k ∈ late, (listed.setIfInBounds i true).getD k true = listed.getD k true := fun k hk => getD_set_ne true (fun e => hni (e ▸ hk))
        obtain ⟨C, hC, hst⟩ : ∃ C : World → Prop, (∀ (ls : Array Bool) (w : World), HeadInv md l.toArray l.toArray.size ls → ls.getD i true = false → SS S0 S1 late ls w → C w) ∧ qOp P l.toArray C i (wpQ2 P l S0 S1 K seg) a := by
          cases b with
          | false =>
            refine ⟨S1, fun ls w _ _ h => h.1, ?_⟩
            unfold wpQ2 at h
            rw [e] at h
            unfold qOp
            simp only [ho']
            exact h
          | true =>
            have he : earlyB md l late i = true := by simpa using hb
            refine ⟨S0, fun ls w inv' hun h => h.2 fun k hk => ?_, ?_⟩
            · unfold earlyB at he
              have hek := List.all_eq_true.1 he k hk
              cases hok : l[k]? with
              | none => rw [hok] at hek; cases hek
              | some ok =>
                rw [hok] at hek
                simp only [Array.any_eq_true, Bool.and_eq_true, beq_iff_eq] at hek
                obtain ⟨q, hq, hb1, hb2⟩ := hek
                cases hg : ls.getD k true with
                | false => rfl
                | true =>
                  have hks : k < ls.size := by
                    rw [inv'.size]
                    exact (Array.getElem?_eq_some_iff.1 (show l.toArray[k]? = some ok by simpa using hok)).1
                  have hg2 : ls.getD k false = true := by
                    simp only [Array.getD, hks, dif_pos] at hg ⊢
                    exact hg
                  have := inv'.closed k ok (by simpa using hok) hg2 _ (Array.getElem_mem hq) hb1
                  rw [hb2, getD_both hun] at this
                  cases this
            · unfold wpQ2 at h
              rw [e] at h
              unfold qOp
              simp only [ho']
              exact h
        obtain ⟨v, hy, hk⟩ := yieldsIn_of_qOp ho' hst
        rw [List.length_cons, show seg.length + 1 + f = (seg.length + f) + 1 by omega]
        exact headS_first ho' (Region.noSelect_spec hsel) (fun c a w h => hQ c _ _ a w h) hSi hC _ listed a w inv (Region.free_spec ho' hf) hr' (yieldsIf_of_in hp' hy) hS
          (segS_headS hsel hQ h01 seg _ l' f K _ w (inv.set hr' hin) hB ((hSi _ _).2 hS) hk (fun i1 s1 e1 => hK i1 s1 (fun k hk => (e1 k hk).trans (hlk k hk))))
    · cases hB
theorem mixS_headS {l : List Oper} (hsel : Region.noSelect l.toArray = true) (hQ : ∀ c d v a w, Q (.panic c) (Act.put a d v) w → Q (.panic c) a w) (h01 : ∀ w, S0 w → S1 w) :
    ∀ (plan : PlanS) (st : Bool) (listed : Array Bool) (a : Act) (w : World), HeadInv md l.toArray l.toArray.size listed → (st = true → ∃ k ∈ late, listed.getD k true = true) → mixSB md l late plan listed = true → SS S0 S1 late listed w →
      wpMixS P l S0 S1 late Q plan st a w → headS P md l.toArray (SS S0 S1 late) Q (cntS plan) listed a w
  | .done last, st, listed, a, w, inv, hst, hB, hS, h => by
    unfold mixSB at hB
    split at hB
    · cases hB
    · rename_i l' hl'
      have := segS_headS (P := P) (Q := Q) hsel hQ h01 last listed l' 0 _ a w inv hl' hS h (fun _ _ _ a' h' => ⟨by simpa using hB, h'⟩)
      simpa [cntS] using this
  | .one seg i r, st, listed, a, w, inv, hst, hB, hS, h => by
    unfold mixSB at hB
    split at hB
    · cases hB
    · rename_i l' hl'
      simp only [Bool.and_eq_true, decide_eq_true_eq] at hB
      obtain ⟨hr, hB⟩ := hB
      have := segS_headS (P := P) (Q := Q) hsel hQ h01 seg listed l' (1 + cntS r) _ a w inv hl' hS h (fun inv' hS' hk' a' h' => by
        rw [Nat.add_comm 1]
        refine ⟨by rw [hr]; simp, fun j hj => ?_⟩
        have hj0 := hj
        rw [hr] at hj
        have hji : j = i := by simpa using hj
        subst hji
        obtain ⟨_, oj, hoj, _⟩ := mem_ready.1 hj0
        have hjn : j < l.toArray.size := (Array.getElem?_eq_some_iff.1 hoj).1
        have e : pk l [j] = [oj] := by
          have : l[j]? = some oj := by simpa using hoj
          rw [pk_cons, pushAt_eq _ _ _ this]; rfl
        rw [e] at h'
        have hst2 : (st || late.contains j) = true → ∃ k ∈ late, (l'.setIfInBounds j true).getD k true = true := fun hb => by
          by_cases hjl : j ∈ late
          · refine ⟨j, hjl, ?_⟩
            simp [Array.getD]
          · have hs : st = true := by simpa [hjl] using hb
            obtain ⟨k, hk, hk2⟩ := hst hs
            have hjk : j ≠ k := fun e' => hjl (by rw [e']; exact hk)
            exact ⟨k, hk, by rw [getD_set_ne true hjk, hk' k hk, hk2]⟩
        refine wpOp_mono (fun a'' w'' h3 => ?_) (wpOp_of_list hoj h')
        obtain ⟨h3a, h3b⟩ := h3
        have hSS : SS S0 S1 late (l'.setIfInBounds j true) w'' := by
          cases hb : (st || late.contains j) with
          | true =>
            rw [hb] at h3a
            refine ⟨h3a, fun hall => ?_⟩
            obtain ⟨k, hk, hk2⟩ := hst2 hb
            rw [hall k hk] at hk2
            cases hk2
          | false =>
            rw [hb] at h3a
            exact ⟨h01 _ h3a, fun _ => h3a⟩
        exact ⟨hSS, mixS_headS hsel hQ h01 r _ _ a'' w'' (inv'.set hj0 hjn) hst2 hB hSS h3b⟩)
      simp only [cntS]
      rwa [show seg.length + 1 + cntS r = seg.length + (1 + cntS r) by omega]
end
theorem wp_region_mixS {P : Program} {id : Nat} {Q : Exit → Act → World → Prop} {a : Act} {w : World} {l : List Oper} (T : Nat → Prop) (late : List Nat) (plan : PlanS) (hm : P.follows .mixedOrders = true) (hQ : ∀ c d v a w, Q (.panic c) (Act.put a d v) w → Q (.panic c) a w)
    (hB : mixSAll l late plan = true)
    (h : wpMixS P l (fun w' => ∃ x : UpW w.heap.size w, w' = x.w) (fun w' => ∃ x : OnW T w, w' = x.w) late Q plan false a w.drew) : (Code.region id l.toArray true).wp P Q a w := by
  simp only [mixSAll, Bool.and_eq_true, decide_eq_true_eq] at hB
  obtain ⟨⟨hsel, hcnt⟩, hmix⟩ := hB
  have inv0 : HeadInv .any l.toArray l.toArray.size (Array.replicate l.length false) :=
    ⟨by simp, fun j oj _ hl => (by rw [getD_replicate_false] at hl; cases hl), fun t h1 h2 => by omega⟩
  have h01 : ∀ w', (∃ x : UpW w.heap.size w, w' = x.w) → ∃ x : OnW T w, w' = x.w := fun w' ⟨x, hx⟩ => ⟨⟨x.w, Only.of_below x.up⟩, hx⟩
  have hu0 : ∃ x : UpW w.heap.size w, w.drew = x.w := ⟨⟨w.drew, (Below.refl _ w).drew⟩, rfl⟩
  have H := mixS_headS (md := .any) hsel hQ h01 plan false _ a w.drew inv0 (fun h => by cases h) hmix ⟨h01 _ hu0, fun _ => hu0⟩ h
  refine wp_region_any hm ?_
  have key := any_of_headS _ _ _ _ H
  rw [hcnt] at key
  simpa using key
/-- The same, where blocks in T0 may turn from the first. -/
theorem wp_region_mixS2 {P : Program} {id : Nat} {Q : Exit → Act → World → Prop} {a : Act} {w : World} {l : List Oper} (T0 T : Nat → Prop) (hT : ∀ k, T0 k → T k) (late : List Nat) (plan : PlanS) (hm : P.follows .mixedOrders = true) (hQ : ∀ c d v a w, Q (.panic c) (Act.put a d v) w → Q (.panic c) a w)
    (hB : mixSAll l late plan = true)
    (h : wpMixS P l (fun w' => ∃ x : OnW T0 w, w' = x.w) (fun w' => ∃ x : OnW T w, w' = x.w) late Q plan false a w.drew) : (Code.region id l.toArray true).wp P Q a w := by
  simp only [mixSAll, Bool.and_eq_true, decide_eq_true_eq] at hB
  obtain ⟨⟨hsel, hcnt⟩, hmix⟩ := hB
  have inv0 : HeadInv .any l.toArray l.toArray.size (Array.replicate l.length false) :=
    ⟨by simp, fun j oj _ hl => (by rw [getD_replicate_false] at hl; cases hl), fun t h1 h2 => by omega⟩
  have h01 : ∀ w', (∃ x : OnW T0 w, w' = x.w) → ∃ x : OnW T w, w' = x.w := fun w' ⟨x, hx⟩ => ⟨⟨x.w, x.on.mono hT⟩, hx⟩
  have hu0 : ∃ x : OnW T0 w, w.drew = x.w := ⟨⟨w.drew, (Only.refl _ w).drew⟩, rfl⟩
  have H := mixS_headS (md := .any) hsel hQ h01 plan false _ a w.drew inv0 (fun h => by cases h) hmix ⟨h01 _ hu0, fun _ => hu0⟩ h
  refine wp_region_any hm ?_
  have key := any_of_headS _ _ _ _ H
  rw [hcnt] at key
  simpa using key
end Go.Proofs.YtcfdalmllegefaaGreatDoor
/- Package buffer: the positions move with an edit. -/
namespace Go.Proofs.YtcfdalmllegefaaGreatDoor
open Go.RowKit
set_option linter.unusedVariables false
set_option linter.unusedSimpArgs false
/-- From w on, the closure maps positions by f. -/
structure EditAt (w : World) (F : FuncId) (cp : Array Value) (f : Int → Bool → Int) : Prop where
  en : Enters F
  run : ∀ (x : Int) (ah : Bool) (w1 : World), 0 ≤ x → x ≤ 2000000 → Below w.heap.size w w1 → Calls Tryz.prog F (#[.int .i64 x, .bool ah] ++ cp) w1 fun r w2 => r = .returned (.int .i64 (f x ah)) ∧ Below w1.heap.size w1 w2
section
variable {w w' : World} {b g o : Nat} {S : BS} {F : FuncId} {cp : Array Value} {f : Int → Bool → Int}
theorem EditAt.up (h : EditAt w F cp f) (hb : Below w.heap.size w w') : EditAt w' F cp f := ⟨h.en, fun x a w1 h0 h1 hb1 => h.run x a w1 h0 h1 (up2 hb hb1)⟩
set_option maxRecDepth 100000 in
set_option maxHeartbeats 4000000 in
theorem move_ok (hE : EditAt w F cp f) (bf : Bool) (p0 p1 p2 p3 : Int) (h0 : w.cell? ⟨g, o, none⟩ = some (.int .i64 p0)) (h1 : w.cell? ⟨g, o + 1, none⟩ = some (.int .i64 p1)) (h2 : w.cell? ⟨g, o + 2, none⟩ = some (.int .i64 p2)) (h3 : w.cell? ⟨g, o + 3, none⟩ = some (.int .i64 p3))
    (z0 : w.frozen? ⟨g, o, none⟩ = false) (z1 : w.frozen? ⟨g, o + 1, none⟩ = false) (z2 : w.frozen? ⟨g, o + 2, none⟩ = false) (z3 : w.frozen? ⟨g, o + 3, none⟩ = false)
    (b0 : 0 ≤ p0 ∧ p0 ≤ 2000000) (b1 : 0 ≤ p1 ∧ p1 ≤ 2000000) (b2 : 0 ≤ p2 ∧ p2 ≤ 2000000) (b3 : 0 ≤ p3 ∧ p3 ≤ 2000000) :
    Calls Tryz.prog 286 #[.pointer (some ⟨g, o, none⟩), .func (.func F) #[] cp, .bool bf] w fun r w' => r = .returned (.tuple #[]) ∧
      ∃ w1, Below w.heap.size w w1 ∧ w' = (((w1.setCell ⟨g, o, none⟩ (.int .i64 (f p0 bf))).setCell ⟨g, o + 1, none⟩ (.int .i64 (f p1 false))).setCell ⟨g, o + 2, none⟩ (.int .i64 (f p2 true))).setCell ⟨g, o + 3, none⟩ (.int .i64 (f p3 bf)) := by
  have hg := lt_of_cell h0
  have hin : ∀ (args : Array Value) (w : World), (callFunc F args).run Tryz.prog w = .ok (.enter F args) w := hE.en
  have C0 : ∀ x : UpW w.heap.size w, x.w.cell? ⟨g, o, none⟩ = some (.int .i64 p0) := fun x => cell_up h0 x.up
  have C1 : ∀ x : UpW w.heap.size w, x.w.cell? ⟨g, o + 1, none⟩ = some (.int .i64 p1) := fun x => cell_up h1 x.up
  have C2 : ∀ x : UpW w.heap.size w, x.w.cell? ⟨g, o + 2, none⟩ = some (.int .i64 p2) := fun x => cell_up h2 x.up
  have C3 : ∀ x : UpW w.heap.size w, x.w.cell? ⟨g, o + 3, none⟩ = some (.int .i64 p3) := fun x => cell_up h3 x.up
  have HE0 := Lib.hid fun w1 (hb : Below w.heap.size w w1) => hE.run p0 bf w1 b0.1 b0.2 hb
  have HE1 := Lib.hid fun w1 (hb : Below w.heap.size w w1) => hE.run p1 false w1 b1.1 b1.2 hb
  have HE2 := Lib.hid fun w1 (hb : Below w.heap.size w w1) => hE.run p2 true w1 b2.1 b2.2 hb
  have HE3 := Lib.hid fun w1 (hb : Below w.heap.size w w1) => hE.run p3 bf w1 b3.1 b3.2 hb
  have HC := Lib.hid (⟨h0, h1, h2, h3⟩ : _ ∧ _ ∧ _ ∧ _)
  have HZ := Lib.hid (⟨z0, z1, z2, z3⟩ : _ ∧ _ ∧ _ ∧ _)
  generalize f p0 bf = q0 at *
  generalize f p1 false = q1 at *
  generalize f p2 true = q2 at *
  generalize f p3 bf = q3 at *
  clear hE h0 h1 h2 h3 z0 z1 z2 z3 b0 b1 b2 b3
  go_enter Tryz.func286, Tryz.ntmps286
  go_wp2_with fail
  refine wp_region_mixS (fun k => k = g) [32, 35, 38, 41] (.one [(0, true), (1, false), (2, false), (3, false), (4, true), (5, true), (6, true), (7, true), (8, true), (9, true), (11, false), (12, false), (13, false), (14, false), (15, true), (17, false), (18, false), (19, false), (20, false), (21, true), (23, false), (24, false), (25, false), (26, false), (27, true), (28, false)] 10 (.one [] 16 (.one [] 22 (.one [] 29 (.one [(30, false), (31, true)] 32 (.one [(33, false), (34, false)] 35 (.one [(36, false), (37, false)] 38 (.one [(39, false), (40, false)] 41 (.done []))))))))) (by kernel_rfl) (fun c d v a w h => by cases d <;> exact h) (by kernel_rfl) ?_
  simp only [wpMixS, wpQ2, pk_nil, pk_cons, pushAt_zero, pushAt_succ, List.contains_cons, List.contains_nil, Bool.false_or, Bool.or_false, Bool.true_or, Bool.or_true, Nat.reduceBEq, Nat.reduceEqDiff]
  repeat (first | go_big_quiet_step (fail) | refine wpQuiet_nil ?_)
  clear C0 C1 C2 C3
  go_wp2_with fail
  refine (HE0.out _ (Below.refl _ w).drew).mono ?_
  rintro r w1 ⟨rfl, hb1⟩
  have hb1 : Below w.heap.size w w1 := up2 (Below.refl _ w).drew hb1
  go_wp2_with fail
  refine thenQ_normal ⟨⟨⟨_, hb1⟩, rfl⟩, ?_⟩
  go_wp2_with fail
  refine (HE1.out _ hb1).mono ?_
  rintro r w2 ⟨rfl, hb2⟩
  have hb2 : Below w.heap.size w w2 := up2 hb1 hb2
  clear hb1
  go_wp2_with fail
  refine thenQ_normal ⟨⟨⟨_, hb2⟩, rfl⟩, ?_⟩
  go_wp2_with fail
  refine (HE2.out _ hb2).mono ?_
  rintro r w3 ⟨rfl, hb3⟩
  have hb3 : Below w.heap.size w w3 := up2 hb2 hb3
  clear hb2
  go_wp2_with fail
  refine thenQ_normal ⟨⟨⟨_, hb3⟩, rfl⟩, ?_⟩
  go_wp2_with fail
  refine (HE3.out _ hb3).mono ?_
  rintro r w4 ⟨rfl, hb4⟩
  have hb4 : Below w.heap.size w w4 := up2 hb3 hb4
  clear hb3
  go_wp2_with fail
  refine thenQ_normal ⟨⟨⟨_, hb4⟩, rfl⟩, ?_⟩
  repeat (first | go_big_quiet_step (fail) | refine wpQuiet_nil ?_)
  obtain ⟨h0, h1, h2, h3⟩ := HC.out
  obtain ⟨z0, z1, z2, z3⟩ := HZ.out
  have h0 := cell_up h0 hb4
  have h1 := cell_up h1 hb4
  have h2 := cell_up h2 hb4
  have h3 := cell_up h3 hb4
  have z0 := (hb4.frozen (p := ⟨g, o, none⟩) hg).trans z0
  have z1 := (hb4.frozen (p := ⟨g, o + 1, none⟩) hg).trans z1
  have z2 := (hb4.frozen (p := ⟨g, o + 2, none⟩) hg).trans z2
  have z3 := (hb4.frozen (p := ⟨g, o + 3, none⟩) hg).trans z3
  have ho : Only (fun k => k = g) w w4 := Only.of_below hb4
  go_wp2_with fail
  refine thenQ_normal ⟨⟨⟨_, ho.setCell (p := ⟨g, o, none⟩) rfl _⟩, rfl⟩, ?_⟩
  repeat (first | go_big_quiet_step (fail) | refine wpQuiet_nil ?_)
  go_wp2_with fail
  refine thenQ_normal ⟨⟨⟨_, (ho.setCell (p := ⟨g, o, none⟩) rfl _).setCell (p := ⟨g, o + 1, none⟩) rfl _⟩, rfl⟩, ?_⟩
  repeat (first | go_big_quiet_step (fail) | refine wpQuiet_nil ?_)
  go_wp2_with fail
  refine thenQ_normal ⟨⟨⟨_, ((ho.setCell (p := ⟨g, o, none⟩) rfl _).setCell (p := ⟨g, o + 1, none⟩) rfl _).setCell (p := ⟨g, o + 2, none⟩) rfl _⟩, rfl⟩, ?_⟩
  repeat (first | go_big_quiet_step (fail) | refine wpQuiet_nil ?_)
  go_wp2_with fail
  refine thenQ_normal ⟨⟨⟨_, (((ho.setCell (p := ⟨g, o, none⟩) rfl _).setCell (p := ⟨g, o + 1, none⟩) rfl _).setCell (p := ⟨g, o + 2, none⟩) rfl _).setCell (p := ⟨g, o + 3, none⟩) rfl _⟩, rfl⟩, ?_⟩
  go_end0
  exact ⟨rfl, w4, hb4, rfl⟩
end
end Go.Proofs.YtcfdalmllegefaaGreatDoor
/- Package buffer: inserted, moves. -/
namespace Go.Proofs.YtcfdalmllegefaaGreatDoor
open Go.RowKit
set_option linter.unusedVariables false
set_option linter.unusedSimpArgs false
def insF (at_ n : Int) (x : Int) (ah : Bool) : Int := if at_ < x ∨ x = at_ ∧ ah = true then x + n else x
section
variable {w w' : World} {b g o : Nat} {S : BS} {F : FuncId} {cp : Array Value} {f : Int → Bool → Int}
set_option maxRecDepth 100000 in
set_option maxHeartbeats 1000000 in
theorem inserted1_ok {k0 k1 : Nat} (at_ n x : Int) (ah : Bool) (hx0 : 0 ≤ x) (hx1 : x ≤ 2000000) (hn0 : 0 ≤ n) (hn1 : n ≤ 2000000) (h0 : w.cell? ⟨k0, 0, none⟩ = some (.int .i64 at_)) (h1 : w.cell? ⟨k1, 0, none⟩ = some (.int .i64 n)) :
    Calls Tryz.prog 291 #[.int .i64 x, .bool ah, pAt k0, pAt k1] w fun r w2 => r = .returned (.int .i64 (insF at_ n x ah)) ∧ Below w.heap.size w w2 := by
  have s1 : IntKind.i64.wrap (x + n) = x + n := IntWalk.i64_in _ (by omega)
  clear hx0 hx1 hn0 hn1
  unfold insF
  by_cases hlt : at_ < x
  · rw [if_pos (.inl hlt)]
    have d1 : decide (at_ < x) = true := decide_eq_true hlt
    go_enter Tryz.func291, Tryz.ntmps291
    go_wp2_with fail
    go_ret
    exact ⟨rfl, Below.refl _ _⟩
  · have d1 : decide (at_ < x) = false := decide_eq_false hlt
    by_cases he : x = at_
    · have d2 : (x == at_) = true := by simp [he]
      cases ah with
      | true =>
        rw [if_pos (.inr ⟨he, rfl⟩)]
        clear he hlt
        go_enter Tryz.func291, Tryz.ntmps291
        go_wp2_with fail
        go_ret
        exact ⟨rfl, Below.refl _ _⟩
      | false =>
        rw [if_neg (by simp [hlt])]
        clear he hlt
        go_enter Tryz.func291, Tryz.ntmps291
        go_wp2_with fail
        go_ret
        exact ⟨rfl, Below.refl _ _⟩
    · have d2 : (x == at_) = false := by simp [he]
      rw [if_neg (by simp [hlt, he])]
      clear he hlt
      go_enter Tryz.func291, Tryz.ntmps291
      go_wp2_with fail
      go_ret
      exact ⟨rfl, Below.refl _ _⟩
set_option maxHeartbeats 1000000 in
theorem inserted_ok (at_ n : Int) (hn0 : 0 ≤ n) (hn1 : n ≤ 2000000) (w : World) : Calls Tryz.prog 214 #[.int .i64 at_, .int .i64 n] w fun r w' =>
    ∃ cp, r = .returned (.func (.func 291) #[] cp) ∧ Below w.heap.size w w' ∧ EditAt w' 291 cp (insF at_ n) := by
  have HN0 := Lib.hid hn0
  have HN1 := Lib.hid hn1
  clear hn0 hn1
  go_enter Tryz.func214, Tryz.ntmps214
  go_wp2_with fail
  go_ret
  obtain ⟨a0, a1⟩ := al2 w (.int .i64 at_) (.int .i64 n) 3 3
  refine ⟨_, rfl, below2 w _ _, enters_mk Tryz.func291 (by kernel_rfl) rfl, fun x ah w1 h0 h1 hb => ?_⟩
  exact inserted1_ok at_ n x ah h0 h1 HN0.out HN1.out (cell_up a0 hb) (cell_up a1 hb)
set_option maxHeartbeats 2000000 in
theorem moves0_ok (h : BufB w b S) (hs : S.saved = .slice none 0 0) (hE : EditAt w F cp f) (bf : Bool) (b0 : S.pt ≤ 2000000) (b1 : S.lo ≤ 2000000) (b2 : S.hi ≤ 2000000) (b3 : S.mark ≤ 2000000)
    (p' l' h' m' : Nat) (e0 : f S.pt bf = p') (e1 : f S.lo false = l') (e2 : f S.hi true = h') (e3 : f S.mark bf = m') :
    Calls Tryz.prog 209 #[pAt b, .func (.func F) #[] cp, .bool bf] w fun r w' => r = .returned (.tuple #[]) ∧ Only (fun k => k = b) w w' ∧ BufB w' b { S with pt := p', lo := l', hi := h', mark := m' } := by
  have HM := Lib.hid (move_ok (g := b) (o := 0) hE bf S.pt S.lo S.hi S.mark (h.cell (j := 0) rfl) (h.cell (j := 1) rfl) (h.cell (j := 2) rfl) (h.cell (j := 3) rfl) (h.fz 0) (h.fz 1) (h.fz 2) (h.fz 3) (by omega) (by omega) (by omega) (by omega))
  rw [e0, e1, e2, e3] at HM
  have H := Lib.hid h
  have HS := Lib.hid hs
  have hin : ∀ (args : Array Value) (w : World), (callFunc F args).run Tryz.prog w = .ok (.enter F args) w := hE.en
  clear h hs hE b0 b1 b2 b3 e0 e1 e2 e3
  go_enter Tryz.func209, Tryz.ntmps209
  go_wp2_with fail
  refine HM.out.mono ?_
  rintro r wx ⟨rfl, w1, hb1, rfl⟩
  have h4 : BufB ((((w1.setCell ⟨b, 0, none⟩ (.int .i64 (p' : Int))).setCell ⟨b, 0 + 1, none⟩ (.int .i64 (l' : Int))).setCell ⟨b, 0 + 2, none⟩ (.int .i64 (h' : Int))).setCell ⟨b, 0 + 3, none⟩ (.int .i64 (m' : Int))) b { S with pt := p', lo := l', hi := h', mark := m' } :=
    ((((H.out.up hb1).set (j := 0) (by simp) (.int .i64 (p' : Int))).set (j := 1) (by simp) (.int .i64 (l' : Int))).set (j := 2) (by simp) (.int .i64 (h' : Int))).set (j := 3) (by simp) (.int .i64 (m' : Int))
  have o4 : Only (fun k => k = b) w ((((w1.setCell ⟨b, 0, none⟩ (.int .i64 (p' : Int))).setCell ⟨b, 0 + 1, none⟩ (.int .i64 (l' : Int))).setCell ⟨b, 0 + 2, none⟩ (.int .i64 (h' : Int))).setCell ⟨b, 0 + 3, none⟩ (.int .i64 (m' : Int))) :=
    ((((Only.of_below (S := fun k => k = b) hb1).setCell (p := ⟨b, 0, none⟩) rfl _).setCell (p := ⟨b, 0 + 1, none⟩) rfl _).setCell (p := ⟨b, 0 + 2, none⟩) rfl _).setCell (p := ⟨b, 0 + 3, none⟩) rfl _
  generalize (((w1.setCell ⟨b, 0, none⟩ (.int .i64 (p' : Int))).setCell ⟨b, 0 + 1, none⟩ (.int .i64 (l' : Int))).setCell ⟨b, 0 + 2, none⟩ (.int .i64 (h' : Int))).setCell ⟨b, 0 + 3, none⟩ (.int .i64 (m' : Int)) = W at *
  have c17 : W.cell? ⟨b, 17, none⟩ = some (.slice none 0 0) := by rw [← HS.out]; exact h4.cell (j := 17) rfl
  have H4 := Lib.hid h4
  clear h4 HM
  go_wp2_with fail
  go_loopw [18] (fun va wr => va = .int .i64 0 ∧ W = wr) (fun _ _ => 0)
  case atStart => exact ⟨rfl, rfl⟩
  case round =>
    obtain ⟨rfl, rfl⟩ := hrel
    go_wp2_with fail
    go_end0
    exact ⟨rfl, o4, H4.out⟩
end
end Go.Proofs.YtcfdalmllegefaaGreatDoor
/- package undo: Add of the three changes that an insertion in a new buffer logs. -/
namespace Go.Proofs.YtcfdalmllegefaaGreatDoor
open Go.RowKit
set_option linter.unusedVariables false
set_option linter.unusedSimpArgs false
theorem eltC : Elt chC 195 239 9 80 (chV (0, 0, 0)) := ⟨Tryz.underlying195, by kernel_rfl, rfl, by omega, fun _ => rfl, fun x u hu => by simp at hu; rcases hu with rfl | rfl | rfl | rfl | rfl | rfl | rfl | rfl | rfl <;> rfl⟩
section
variable {w w' : World} {N l B : Nat}
set_option maxRecDepth 100000 in
set_option maxHeartbeats 2000000 in
theorem uaddA {f : Value} (hR : Rules N w) (hB : B ≤ w.heap.size) (hNB : N ≤ B) (hlB : l < B) (hNl : N ≤ l) (h : Blk w l 197 (lgC f (.slice none 0 0) 0 0)) :
    Calls Tryz.prog 272 #[.pointer (some ⟨l, 0, none⟩), chV (6, 0, 0)] w fun e w' => e = .returned (.int .i64 0) ∧ ∃ v', ROwn chC 239 9 B w' v' ([] ++ [(6, 0, 0)]) ∧ Blk w' l 197 (lgC f v' 1 1) ∧ Only (fun k => k = l ∨ B ≤ k) w w' := by
  have hv : ROwn chC 239 9 B w (.slice none 0 0) [] := ROwn.nil _ _
  have hbx := below1 w (.cells #[.int .i64 6, .int .i64 0, .int .i64 0, .int .i64 0, .int .i64 0, .string ⟨#[]⟩, .int .i64 0, .int .i64 0, .bool false] 239)
  have hbk := Blk.made w 239 #[.int .i64 6, .int .i64 0, .int .i64 0, .int .i64 0, .int .i64 0, .string ⟨#[]⟩, .int .i64 0, .int .i64 0, .bool false]
  have hl0 := h.lt
  have H := Lib.hid (h.up hbx)
  have HV := Lib.hid (hv.up hbx)
  have HR := Lib.hid (hR.up hbx)
  have HBX := Lib.hid hbx
  have HBK := Lib.hid hbk
  clear h hv hR hbk
  go_enter Tryz.func272, Tryz.ntmps272
  go_wp2_with fail
  generalize w.alloc (.cells #[.int .i64 6, .int .i64 0, .int .i64 0, .int .i64 0, .int .i64 0, .string ⟨#[]⟩, .int .i64 0, .int .i64 0, .bool false] 239) = W at *
  refine (unone _ _ _ _ H.out).mono ?_
  rintro e w' ⟨rfl, rfl⟩
  have b0 := HBK.out.cell (j := 0) rfl
  have b1 := HBK.out.cell (j := 1) rfl
  have b2 := HBK.out.cell (j := 2) rfl
  have b3 := HBK.out.cell (j := 3) rfl
  have b4 := HBK.out.cell (j := 4) rfl
  have b5 := HBK.out.cell (j := 5) rfl
  have b6 := HBK.out.cell (j := 6) rfl
  have b7 := HBK.out.cell (j := 7) rfl
  have b8 := HBK.out.cell (j := 8) rfl
  go_wp2_with fail
  refine (ucheck6 HR.out).mono ?_
  rintro e w1 ⟨rfl, hb1⟩
  have H1 := Lib.hid (H.out.up hb1)
  have HV1 := Lib.hid (HV.out.up hb1)
  have HBX1 := Lib.hid (up2 HBX.out hb1)
  have HBK1 := Lib.hid (HBK.out.up hb1)
  clear b0 b1 b2 b3 b4 b5 b6 b7 b8 hb1 H HV HBX HBK HR
  have b0 := HBK1.out.cell (j := 0) rfl
  have b1 := HBK1.out.cell (j := 1) rfl
  have b2 := HBK1.out.cell (j := 2) rfl
  have b3 := HBK1.out.cell (j := 3) rfl
  have b4 := HBK1.out.cell (j := 4) rfl
  have b5 := HBK1.out.cell (j := 5) rfl
  have b6 := HBK1.out.cell (j := 6) rfl
  have b7 := HBK1.out.cell (j := 7) rfl
  have b8 := HBK1.out.cell (j := 8) rfl
  have l2 := H1.out.cell (j := 2) rfl
  go_wp2_with fail
  go_region
  go_wp2_with fail
  refine (uprice 6 0 0 (by simp)).mono ?_
  rintro e w2 ⟨rfl, hb2⟩
  have hb2' : Below w1.heap.size w1 w2 := up2 ((Below.refl _ w1).drew) hb2
  have H2 := Lib.hid (H1.out.up hb2')
  have HV2 := Lib.hid (HV1.out.up hb2')
  have HBX2 := Lib.hid (up2 HBX1.out hb2')
  have HBK2 := Lib.hid (HBK1.out.up hb2')
  clear b0 b1 b2 b3 b4 b5 b6 b7 b8 hb2 hb2' H1 HV1 HBX1 HBK1 l2
  have l5 := H2.out.cell (j := 5) rfl
  go_wp2_with fail
  obtain ⟨VV, hVV⟩ : ∃ VV : Value, VV = (.slice none 0 0) := ⟨_, rfl⟩
  have hVB : ∀ k, VV.ownBlock = some k → B ≤ k ∧ k < w.heap.size := by
    intro k hk
    subst hVV
    simp [Value.ownBlock] at hk
    skip
  obtain ⟨v', w3, happ, hown3, hb3, ho3, hblk3⟩ := append_elem eltC (B := B) (w := w2.drew) (hVV ▸ (HV2.out.up ((Below.refl _ w2).drew)) : ROwn chC 239 9 B w2.drew VV []) (Nat.le_trans hB HBX2.out.size) (6, 0, 0) (by simp) (by omega)
  have HP := Lib.hid happ
  have HO3 : Hid (Only (fun k => VV.ownBlock = some k) w2 w3) := Lib.hid (((Only.refl _ w2).drew).trans ho3)
  have hon : Only (fun k => VV.ownBlock = some k) w w3 := (Only.of_below HBX2.out).trans HO3.out
  have HON := Lib.hid hon
  have hk3 : Blk w3 l 197 _ := H2.out.only HO3.out (fun hk => by have := (hVB l hk).1; omega)
  have HK3 := Lib.hid hk3
  have C2 : ∀ x : OnW (fun k => VV.ownBlock = some k) w2, x.w.cell? ⟨l, 2, none⟩ = some (.slice none 0 0) := fun x => (H2.out.only x.on (fun hk => by have := (hVB l hk).1; omega)).cell (j := 2) rfl
  have CB : ∀ x : OnW (fun k => VV.ownBlock = some k) w2, Blk x.w w.heap.size 239 _ := fun x => HBK2.out.only x.on (fun hk => by have := (hVB _ hk).2; omega)
  have b0 := fun x => (CB x).cell (j := 0) rfl
  have b1 := fun x => (CB x).cell (j := 1) rfl
  have b2 := fun x => (CB x).cell (j := 2) rfl
  have b3 := fun x => (CB x).cell (j := 3) rfl
  have b4 := fun x => (CB x).cell (j := 4) rfl
  have b5 := fun x => (CB x).cell (j := 5) rfl
  have b6 := fun x => (CB x).cell (j := 6) rfl
  have b7 := fun x => (CB x).cell (j := 7) rfl
  have b8 := fun x => (CB x).cell (j := 8) rfl
  clear CB happ ho3 hon hk3 hb3
  refine wp_region_mixO (fun k => VV.ownBlock = some k) 10 (.one [0, 1, 2, 3, 4, 5] 6 (.one [] 7 (.done [8, 9]))) (by kernel_rfl) (fun c d v a w h => by cases d <;> exact h) (by kernel_rfl) ?_
  simp only [wpMixT, pk_nil, pk_cons, pushAt_zero, pushAt_succ, List.drop_succ_cons, List.drop_zero]
  repeat (go_big_quiet_step (fail))
  refine wpQuiet_nil ?_
  clear b0 b1 b2 b3 b4 b5 b6 b7 b8
  subst hVV
  go_wp2_with fail
  refine thenQ_normal ⟨⟨⟨_, (Only.refl _ w2).drew.alloc _⟩, rfl⟩, ?_⟩
  refine wpQuiet_nil ?_
  refine wpList_app_run rfl _ _ _ rfl rfl rfl HP.out ?_
  go_wp2_with fail
  refine thenQ_normal ⟨⟨⟨_, HO3.out⟩, rfl⟩, ?_⟩
  repeat (go_big_quiet_step (fail))
  refine wpQuiet_nil ?_
  clear C2
  have HOW := Lib.hid hown3
  obtain ⟨A', cap', rfl, _, _, _⟩ := hown3.shape eltC
  clear hown3
  have f2 := HK3.out.fz 2
  have k2 := HK3.out.cell (j := 2) rfl
  have hsw : w.heap.size ≤ w3.heap.size := HON.out.size
  have hk4 := HK3.out.set (j := 2) (by simp) (.slice A' 1 cap')
  have HW4 := Lib.hid (HOW.out.kept (w' := w3.setCell ⟨l, 2, none⟩ (.slice A' 1 cap')) (fun g hg => Below.heap_setCell _ _ _ _ (by have := HOW.out.base hg; simp only []; omega)))
  have HO4 := Lib.hid ((HON.out.mono (T := fun k => k = l ∨ B ≤ k) (fun k hk => .inr (hVB k hk).1)).setCell (p := ⟨l, 2, none⟩) (.inl rfl) (.slice A' 1 cap'))
  have HK4 := Lib.hid hk4
  clear hk4
  go_wp2_with fail
  generalize w3.setCell ⟨l, 2, none⟩ (.slice A' 1 cap') = w4 at *
  have m4 := HK4.out.cell (j := 4) rfl
  have m5 := HK4.out.cell (j := 5) rfl
  have f4 := HK4.out.fz 4
  have f5 := HK4.out.fz 5
  go_region
  go_wp2_with fail
  go_ret
  have hk6 := (HK4.out.set (j := 4) (by simp) (.int .i64 1)).set (j := 5) (by simp) (.int .i64 1)
  refine ⟨rfl, _, ?_, hk6, ((HO4.out.setCell (p := ⟨l, 4, none⟩) (.inl rfl) (.int .i64 1)).setCell (p := ⟨l, 5, none⟩) (.inl rfl) (.int .i64 1)).drew⟩
  exact HW4.out.kept (fun g hg => by
    have h1 := HOW.out.base hg
    exact (Below.heap_setCell (w4.setCell ⟨l, 4, none⟩ (.int .i64 1)) ⟨l, 5, none⟩ (.int .i64 1) g (by simp only []; omega)).trans (Below.heap_setCell w4 ⟨l, 4, none⟩ (.int .i64 1) g (by simp only []; omega)))
set_option maxRecDepth 100000 in
set_option maxHeartbeats 2000000 in
theorem uaddB {f v : Value} (hR : Rules N w) (hB : B ≤ w.heap.size) (hNB : N ≤ B) (hlB : l < B) (hNl : N ≤ l) (hv : ROwn chC 239 9 B w v [(6, 0, 0)]) (h : Blk w l 197 (lgC f v 1 1)) :
    Calls Tryz.prog 272 #[.pointer (some ⟨l, 0, none⟩), chV (4, 1, 0)] w fun e w' => e = .returned (.int .i64 0) ∧ ∃ v', ROwn chC 239 9 B w' v' ([(6, 0, 0)] ++ [(4, 1, 0)]) ∧ Blk w' l 197 (lgC f v' 2 2) ∧ Only (fun k => k = l ∨ B ≤ k) w w' := by
  obtain ⟨g, cap, rfl, hcap1, hcap2, hgB, hgl, _, hat⟩ := hv.lies eltC (by simp)
  clear hat
  have hbx := below1 w (.cells #[.int .i64 4, .int .i64 1, .int .i64 0, .int .i64 0, .int .i64 0, .string ⟨#[]⟩, .int .i64 0, .int .i64 0, .bool false] 239)
  have hbk := Blk.made w 239 #[.int .i64 4, .int .i64 1, .int .i64 0, .int .i64 0, .int .i64 0, .string ⟨#[]⟩, .int .i64 0, .int .i64 0, .bool false]
  have hl0 := h.lt
  have H := Lib.hid (h.up hbx)
  have HV := Lib.hid (hv.up hbx)
  have HR := Lib.hid (hR.up hbx)
  have HBX := Lib.hid hbx
  have HBK := Lib.hid hbk
  clear h hv hR hbk
  go_enter Tryz.func272, Tryz.ntmps272
  go_wp2_with fail
  generalize w.alloc (.cells #[.int .i64 4, .int .i64 1, .int .i64 0, .int .i64 0, .int .i64 0, .string ⟨#[]⟩, .int .i64 0, .int .i64 0, .bool false] 239) = W at *
  refine (unone _ _ _ _ H.out).mono ?_
  rintro e w' ⟨rfl, rfl⟩
  have b0 := HBK.out.cell (j := 0) rfl
  have b1 := HBK.out.cell (j := 1) rfl
  have b2 := HBK.out.cell (j := 2) rfl
  have b3 := HBK.out.cell (j := 3) rfl
  have b4 := HBK.out.cell (j := 4) rfl
  have b5 := HBK.out.cell (j := 5) rfl
  have b6 := HBK.out.cell (j := 6) rfl
  have b7 := HBK.out.cell (j := 7) rfl
  have b8 := HBK.out.cell (j := 8) rfl
  go_wp2_with fail
  refine (ucheck4 1 (by omega) (by omega) HR.out).mono ?_
  rintro e w1 ⟨rfl, hb1⟩
  have H1 := Lib.hid (H.out.up hb1)
  have HV1 := Lib.hid (HV.out.up hb1)
  have HBX1 := Lib.hid (up2 HBX.out hb1)
  have HBK1 := Lib.hid (HBK.out.up hb1)
  clear b0 b1 b2 b3 b4 b5 b6 b7 b8 hb1 H HV HBX HBK HR
  have b0 := HBK1.out.cell (j := 0) rfl
  have b1 := HBK1.out.cell (j := 1) rfl
  have b2 := HBK1.out.cell (j := 2) rfl
  have b3 := HBK1.out.cell (j := 3) rfl
  have b4 := HBK1.out.cell (j := 4) rfl
  have b5 := HBK1.out.cell (j := 5) rfl
  have b6 := HBK1.out.cell (j := 6) rfl
  have b7 := HBK1.out.cell (j := 7) rfl
  have b8 := HBK1.out.cell (j := 8) rfl
  have l2 := H1.out.cell (j := 2) rfl
  go_wp2_with fail
  go_region
  go_wp2_with fail
  refine (uprice 4 1 0 (by simp)).mono ?_
  rintro e w2 ⟨rfl, hb2⟩
  have hb2' : Below w1.heap.size w1 w2 := up2 ((Below.refl _ w1).drew) hb2
  have H2 := Lib.hid (H1.out.up hb2')
  have HV2 := Lib.hid (HV1.out.up hb2')
  have HBX2 := Lib.hid (up2 HBX1.out hb2')
  have HBK2 := Lib.hid (HBK1.out.up hb2')
  clear b0 b1 b2 b3 b4 b5 b6 b7 b8 hb2 hb2' H1 HV1 HBX1 HBK1 l2
  have l5 := H2.out.cell (j := 5) rfl
  go_wp2_with fail
  obtain ⟨VV, hVV⟩ : ∃ VV : Value, VV = (.slice (some ⟨g, 0, none⟩) 1 cap) := ⟨_, rfl⟩
  have hVB : ∀ k, VV.ownBlock = some k → B ≤ k ∧ k < w.heap.size := by
    intro k hk
    subst hVV
    simp [Value.ownBlock] at hk
    exact hk ▸ ⟨hgB, hgl⟩
  obtain ⟨v', w3, happ, hown3, hb3, ho3, hblk3⟩ := append_elem eltC (B := B) (w := w2.drew) (hVV ▸ (HV2.out.up ((Below.refl _ w2).drew)) : ROwn chC 239 9 B w2.drew VV [(6, 0, 0)]) (Nat.le_trans hB HBX2.out.size) (4, 1, 0) (by simp) (by omega)
  have HP := Lib.hid happ
  have HO3 : Hid (Only (fun k => VV.ownBlock = some k) w2 w3) := Lib.hid (((Only.refl _ w2).drew).trans ho3)
  have hon : Only (fun k => VV.ownBlock = some k) w w3 := (Only.of_below HBX2.out).trans HO3.out
  have HON := Lib.hid hon
  have hk3 : Blk w3 l 197 _ := H2.out.only HO3.out (fun hk => by have := (hVB l hk).1; omega)
  have HK3 := Lib.hid hk3
  have C2 : ∀ x : OnW (fun k => VV.ownBlock = some k) w2, x.w.cell? ⟨l, 2, none⟩ = some (.slice (some ⟨g, 0, none⟩) 1 cap) := fun x => (H2.out.only x.on (fun hk => by have := (hVB l hk).1; omega)).cell (j := 2) rfl
  have CB : ∀ x : OnW (fun k => VV.ownBlock = some k) w2, Blk x.w w.heap.size 239 _ := fun x => HBK2.out.only x.on (fun hk => by have := (hVB _ hk).2; omega)
  have b0 := fun x => (CB x).cell (j := 0) rfl
  have b1 := fun x => (CB x).cell (j := 1) rfl
  have b2 := fun x => (CB x).cell (j := 2) rfl
  have b3 := fun x => (CB x).cell (j := 3) rfl
  have b4 := fun x => (CB x).cell (j := 4) rfl
  have b5 := fun x => (CB x).cell (j := 5) rfl
  have b6 := fun x => (CB x).cell (j := 6) rfl
  have b7 := fun x => (CB x).cell (j := 7) rfl
  have b8 := fun x => (CB x).cell (j := 8) rfl
  clear CB happ ho3 hon hk3 hb3
  refine wp_region_mixO (fun k => VV.ownBlock = some k) 10 (.one [0, 1, 2, 3, 4, 5] 6 (.one [] 7 (.done [8, 9]))) (by kernel_rfl) (fun c d v a w h => by cases d <;> exact h) (by kernel_rfl) ?_
  simp only [wpMixT, pk_nil, pk_cons, pushAt_zero, pushAt_succ, List.drop_succ_cons, List.drop_zero]
  repeat (go_big_quiet_step (fail))
  refine wpQuiet_nil ?_
  clear b0 b1 b2 b3 b4 b5 b6 b7 b8
  subst hVV
  go_wp2_with fail
  refine thenQ_normal ⟨⟨⟨_, (Only.refl _ w2).drew.alloc _⟩, rfl⟩, ?_⟩
  refine wpQuiet_nil ?_
  refine wpList_app_run rfl _ _ _ rfl rfl rfl HP.out ?_
  go_wp2_with fail
  refine thenQ_normal ⟨⟨⟨_, HO3.out⟩, rfl⟩, ?_⟩
  repeat (go_big_quiet_step (fail))
  refine wpQuiet_nil ?_
  clear C2
  have HOW := Lib.hid hown3
  obtain ⟨A', cap', rfl, _, _, _⟩ := hown3.shape eltC
  clear hown3
  have f2 := HK3.out.fz 2
  have k2 := HK3.out.cell (j := 2) rfl
  have hsw : w.heap.size ≤ w3.heap.size := HON.out.size
  have hk4 := HK3.out.set (j := 2) (by simp) (.slice A' 2 cap')
  have HW4 := Lib.hid (HOW.out.kept (w' := w3.setCell ⟨l, 2, none⟩ (.slice A' 2 cap')) (fun g hg => Below.heap_setCell _ _ _ _ (by have := HOW.out.base hg; simp only []; omega)))
  have HO4 := Lib.hid ((HON.out.mono (T := fun k => k = l ∨ B ≤ k) (fun k hk => .inr (hVB k hk).1)).setCell (p := ⟨l, 2, none⟩) (.inl rfl) (.slice A' 2 cap'))
  have HK4 := Lib.hid hk4
  clear hk4
  go_wp2_with fail
  generalize w3.setCell ⟨l, 2, none⟩ (.slice A' 2 cap') = w4 at *
  have m4 := HK4.out.cell (j := 4) rfl
  have m5 := HK4.out.cell (j := 5) rfl
  have f4 := HK4.out.fz 4
  have f5 := HK4.out.fz 5
  go_region
  go_wp2_with fail
  go_ret
  have hk6 := (HK4.out.set (j := 4) (by simp) (.int .i64 2)).set (j := 5) (by simp) (.int .i64 2)
  refine ⟨rfl, _, ?_, hk6, ((HO4.out.setCell (p := ⟨l, 4, none⟩) (.inl rfl) (.int .i64 2)).setCell (p := ⟨l, 5, none⟩) (.inl rfl) (.int .i64 2)).drew⟩
  exact HW4.out.kept (fun g hg => by
    have h1 := HOW.out.base hg
    exact (Below.heap_setCell (w4.setCell ⟨l, 4, none⟩ (.int .i64 2)) ⟨l, 5, none⟩ (.int .i64 2) g (by simp only []; omega)).trans (Below.heap_setCell w4 ⟨l, 4, none⟩ (.int .i64 2) g (by simp only []; omega)))
set_option maxRecDepth 100000 in
set_option maxHeartbeats 2000000 in
theorem uaddC {f v : Value} (q : Nat) (hq : 1 ≤ q) (hq2 : q ≤ 100000000) (hR : Rules N w) (hB : B ≤ w.heap.size) (hNB : N ≤ B) (hlB : l < B) (hNl : N ≤ l) (hv : ROwn chC 239 9 B w v [(6, 0, 0), (4, 1, 0)]) (h : Blk w l 197 (lgC f v 2 2)) :
    Calls Tryz.prog 272 #[.pointer (some ⟨l, 0, none⟩), chV (1, 1, (q : Int))] w fun e w' => e = .returned (.int .i64 0) ∧ ∃ v', ROwn chC 239 9 B w' v' ([(6, 0, 0), (4, 1, 0)] ++ [(1, 1, (q : Int))]) ∧ Blk w' l 197 (lgC f v' 3 3) ∧ Only (fun k => k = l ∨ B ≤ k) w w' := by
  obtain ⟨g, cap, rfl, hcap1, hcap2, hgB, hgl, _, hat⟩ := hv.lies eltC (by simp)
  have hc9 : w.cell? ⟨g, 9, none⟩ = some (.int .i64 4) := hat 1 (4, 1, 0) 0 _ rfl rfl
  clear hat
  have hbx := below1 w (.cells #[.int .i64 1, .int .i64 1, .int .i64 (q : Int), .int .i64 0, .int .i64 0, .string ⟨#[]⟩, .int .i64 0, .int .i64 0, .bool false] 239)
  have hbk := Blk.made w 239 #[.int .i64 1, .int .i64 1, .int .i64 (q : Int), .int .i64 0, .int .i64 0, .string ⟨#[]⟩, .int .i64 0, .int .i64 0, .bool false]
  have hl0 := h.lt
  have H := Lib.hid (h.up hbx)
  have HV := Lib.hid (hv.up hbx)
  have HR := Lib.hid (hR.up hbx)
  have HBX := Lib.hid hbx
  have HBK := Lib.hid hbk
  clear h hv hR hbk
  go_enter Tryz.func272, Tryz.ntmps272
  go_wp2_with fail
  generalize w.alloc (.cells #[.int .i64 1, .int .i64 1, .int .i64 (q : Int), .int .i64 0, .int .i64 0, .string ⟨#[]⟩, .int .i64 0, .int .i64 0, .bool false] 239) = W at *
  refine (unone _ _ _ _ H.out).mono ?_
  rintro e w' ⟨rfl, rfl⟩
  have b0 := HBK.out.cell (j := 0) rfl
  have b1 := HBK.out.cell (j := 1) rfl
  have b2 := HBK.out.cell (j := 2) rfl
  have b3 := HBK.out.cell (j := 3) rfl
  have b4 := HBK.out.cell (j := 4) rfl
  have b5 := HBK.out.cell (j := 5) rfl
  have b6 := HBK.out.cell (j := 6) rfl
  have b7 := HBK.out.cell (j := 7) rfl
  have b8 := HBK.out.cell (j := 8) rfl
  go_wp2_with fail
  refine (ucheck1 1 q (by omega) hq (by omega) HR.out).mono ?_
  rintro e w1 ⟨rfl, hb1⟩
  have H1 := Lib.hid (H.out.up hb1)
  have HV1 := Lib.hid (HV.out.up hb1)
  have HBX1 := Lib.hid (up2 HBX.out hb1)
  have HBK1 := Lib.hid (HBK.out.up hb1)
  clear b0 b1 b2 b3 b4 b5 b6 b7 b8 hb1 H HV HBX HBK HR
  have b0 := HBK1.out.cell (j := 0) rfl
  have b1 := HBK1.out.cell (j := 1) rfl
  have b2 := HBK1.out.cell (j := 2) rfl
  have b3 := HBK1.out.cell (j := 3) rfl
  have b4 := HBK1.out.cell (j := 4) rfl
  have b5 := HBK1.out.cell (j := 5) rfl
  have b6 := HBK1.out.cell (j := 6) rfl
  have b7 := HBK1.out.cell (j := 7) rfl
  have b8 := HBK1.out.cell (j := 8) rfl
  have l2 := H1.out.cell (j := 2) rfl
  have hlk : w1.cell? ⟨g, 9, none⟩ = some (.int .i64 4) := (World.cell?_of_block (w := w) (a := ⟨g, 9, none⟩) (HBX1.out.block g hgl)).trans hc9
  go_wp2_with fail
  go_region
  go_wp2_with fail
  refine (uprice 1 1 (q : Int) (by simp)).mono ?_
  rintro e w2 ⟨rfl, hb2⟩
  have hb2' : Below w1.heap.size w1 w2 := up2 ((Below.refl _ w1).drew) hb2
  have H2 := Lib.hid (H1.out.up hb2')
  have HV2 := Lib.hid (HV1.out.up hb2')
  have HBX2 := Lib.hid (up2 HBX1.out hb2')
  have HBK2 := Lib.hid (HBK1.out.up hb2')
  clear b0 b1 b2 b3 b4 b5 b6 b7 b8 hb2 hb2' H1 HV1 HBX1 HBK1 l2 hlk hc9
  have l5 := H2.out.cell (j := 5) rfl
  go_wp2_with fail
  obtain ⟨VV, hVV⟩ : ∃ VV : Value, VV = (.slice (some ⟨g, 0, none⟩) 2 cap) := ⟨_, rfl⟩
  have hVB : ∀ k, VV.ownBlock = some k → B ≤ k ∧ k < w.heap.size := by
    intro k hk
    subst hVV
    simp [Value.ownBlock] at hk
    exact hk ▸ ⟨hgB, hgl⟩
  obtain ⟨v', w3, happ, hown3, hb3, ho3, hblk3⟩ := append_elem eltC (B := B) (w := w2.drew) (hVV ▸ (HV2.out.up ((Below.refl _ w2).drew)) : ROwn chC 239 9 B w2.drew VV [(6, 0, 0), (4, 1, 0)]) (Nat.le_trans hB HBX2.out.size) (1, 1, (q : Int)) (by simp) (by omega)
  have HP := Lib.hid happ
  have HO3 : Hid (Only (fun k => VV.ownBlock = some k) w2 w3) := Lib.hid (((Only.refl _ w2).drew).trans ho3)
  have hon : Only (fun k => VV.ownBlock = some k) w w3 := (Only.of_below HBX2.out).trans HO3.out
  have HON := Lib.hid hon
  have hk3 : Blk w3 l 197 _ := H2.out.only HO3.out (fun hk => by have := (hVB l hk).1; omega)
  have HK3 := Lib.hid hk3
  have C2 : ∀ x : OnW (fun k => VV.ownBlock = some k) w2, x.w.cell? ⟨l, 2, none⟩ = some (.slice (some ⟨g, 0, none⟩) 2 cap) := fun x => (H2.out.only x.on (fun hk => by have := (hVB l hk).1; omega)).cell (j := 2) rfl
  have CB : ∀ x : OnW (fun k => VV.ownBlock = some k) w2, Blk x.w w.heap.size 239 _ := fun x => HBK2.out.only x.on (fun hk => by have := (hVB _ hk).2; omega)
  have b0 := fun x => (CB x).cell (j := 0) rfl
  have b1 := fun x => (CB x).cell (j := 1) rfl
  have b2 := fun x => (CB x).cell (j := 2) rfl
  have b3 := fun x => (CB x).cell (j := 3) rfl
  have b4 := fun x => (CB x).cell (j := 4) rfl
  have b5 := fun x => (CB x).cell (j := 5) rfl
  have b6 := fun x => (CB x).cell (j := 6) rfl
  have b7 := fun x => (CB x).cell (j := 7) rfl
  have b8 := fun x => (CB x).cell (j := 8) rfl
  clear CB happ ho3 hon hk3 hb3
  refine wp_region_mixO (fun k => VV.ownBlock = some k) 10 (.one [0, 1, 2, 3, 4, 5] 6 (.one [] 7 (.done [8, 9]))) (by kernel_rfl) (fun c d v a w h => by cases d <;> exact h) (by kernel_rfl) ?_
  simp only [wpMixT, pk_nil, pk_cons, pushAt_zero, pushAt_succ, List.drop_succ_cons, List.drop_zero]
  repeat (go_big_quiet_step (fail))
  refine wpQuiet_nil ?_
  clear b0 b1 b2 b3 b4 b5 b6 b7 b8
  subst hVV
  go_wp2_with fail
  refine thenQ_normal ⟨⟨⟨_, (Only.refl _ w2).drew.alloc _⟩, rfl⟩, ?_⟩
  refine wpQuiet_nil ?_
  refine wpList_app_run rfl _ _ _ rfl rfl rfl HP.out ?_
  go_wp2_with fail
  refine thenQ_normal ⟨⟨⟨_, HO3.out⟩, rfl⟩, ?_⟩
  repeat (go_big_quiet_step (fail))
  refine wpQuiet_nil ?_
  clear C2
  have HOW := Lib.hid hown3
  obtain ⟨A', cap', rfl, _, _, _⟩ := hown3.shape eltC
  clear hown3
  have f2 := HK3.out.fz 2
  have k2 := HK3.out.cell (j := 2) rfl
  have hsw : w.heap.size ≤ w3.heap.size := HON.out.size
  have hk4 := HK3.out.set (j := 2) (by simp) (.slice A' 3 cap')
  have HW4 := Lib.hid (HOW.out.kept (w' := w3.setCell ⟨l, 2, none⟩ (.slice A' 3 cap')) (fun g hg => Below.heap_setCell _ _ _ _ (by have := HOW.out.base hg; simp only []; omega)))
  have HO4 := Lib.hid ((HON.out.mono (T := fun k => k = l ∨ B ≤ k) (fun k hk => .inr (hVB k hk).1)).setCell (p := ⟨l, 2, none⟩) (.inl rfl) (.slice A' 3 cap'))
  have HK4 := Lib.hid hk4
  clear hk4
  go_wp2_with fail
  generalize w3.setCell ⟨l, 2, none⟩ (.slice A' 3 cap') = w4 at *
  have m4 := HK4.out.cell (j := 4) rfl
  have m5 := HK4.out.cell (j := 5) rfl
  have f4 := HK4.out.fz 4
  have f5 := HK4.out.fz 5
  go_region
  go_wp2_with fail
  go_ret
  have hk6 := (HK4.out.set (j := 4) (by simp) (.int .i64 3)).set (j := 5) (by simp) (.int .i64 3)
  refine ⟨rfl, _, ?_, hk6, ((HO4.out.setCell (p := ⟨l, 4, none⟩) (.inl rfl) (.int .i64 3)).setCell (p := ⟨l, 5, none⟩) (.inl rfl) (.int .i64 3)).drew⟩
  exact HW4.out.kept (fun g hg => by
    have h1 := HOW.out.base hg
    exact (Below.heap_setCell (w4.setCell ⟨l, 4, none⟩ (.int .i64 3)) ⟨l, 5, none⟩ (.int .i64 3) g (by simp only []; omega)).trans (Below.heap_setCell w4 ⟨l, 4, none⟩ (.int .i64 3) g (by simp only []; omega)))
end
end Go.Proofs.YtcfdalmllegefaaGreatDoor
