import Derived.Test.YtcfdalmllegefaaGreatDoorZ16
import Derived.Test.YtcfdalmllegefaaGreatDoorZ09
import Derived.Test.YtcfdalmllegefaaGreatDoorZ03
import Derived.Test.YtcfdalmllegefaaGreatDoorZ00
import Derived.Test.YtcfdalmllegefaaGreatDoorZ11
/- package buffer: the log of a plain buffer opened; stand, revert, Boundary, Widen, Narrow, All, Text. -/
namespace Go.Proofs.YtcfdalmllegefaaGreatDoor
open Go.RowKit Go.Lib
set_option linter.unusedVariables false
set_option linter.unusedSimpArgs false
section
variable {N : Nat} {w w' : World} {b mm : Nat} {F F' Fg Fl : Nat → Prop} {pr ev : Int} {T T' : Tx} {co nw co' nw' : Int} {B B' : Nat}
/-- A turn of the log alone. -/
theorem PlainX.setLog {S : BS} {cs : List Nat} {L L' : LgS} {Fl' : Nat → Prop} (h : PlainX w b Fg Fl mm pr ev S cs L) (ho : Only Fl w w') (hl : LogF1 w' S.l Fl' L'.G L'.O L'.ch L'.co L'.nw) (h1 : ∀ k, Fl' k → grow Fl w.heap.size k ∧ k < w'.heap.size) :
    PlainX w' b Fg Fl' mm pr ev S cs L' := by
  refine ⟨h.blk.only ho h.fl.1, h.gap.only ho (fun k hk _ => h.fgl k hk), hl, h.mks.only ho h.fl.2.1 h.fl.2.2.1, h.prs.only ho h.fl.2.2.2.1, h.ovs.only ho h.fl.2.2.2.2, h.sv, fun k hk e => ?_, h.fg, ?_, h.ne, fun k hk => Nat.lt_of_lt_of_le (h.bg k hk) ho.size, fun k hk => (h1 k hk).2⟩
  · exact (h1 k e).1.elim (h.fgl k hk) (fun q => by have := h.bg k hk; omega)
  · have lt : ∀ k, k < w.heap.size → ¬ Fl k → ¬ Fl' k := fun k hk hn e => (h1 k e).1.elim hn (fun q => by omega)
    exact ⟨lt _ h.blk.lt h.fl.1, lt _ h.mks.lt.1 h.fl.2.1, lt _ h.mks.lt.2 h.fl.2.2.1, lt _ h.prs.lt h.fl.2.2.2.1, lt _ h.ovs.lt h.fl.2.2.2.2⟩
/-- The log opened, and laid back. n: a bound of what is the buffer's behind it. -/
theorem PB.log (h : PB N w b F T B) : ∃ Fl co nw, LogF1 w T.S.l Fl T.G T.O T.ch co nw ∧ (∀ k, Fl k → F k) ∧ (∀ k, Fl k → N ≤ k) ∧ T.O.length ≤ B ∧ T.G.length ≤ B ∧ 0 ≤ nw ∧ nw ≤ B ∧ 0 ≤ co ∧ co ≤ B ∧ (T.O = [] → nw = 0) ∧
    ∀ (w' : World) (Fl' : Nat → Prop) (G' : List (List Chg)) (O' : List Chg) (ch' co' nw' : Int) (B' n : Nat), Only Fl w w' → w.heap.size ≤ n → n ≤ w'.heap.size → LogF1 w' T.S.l Fl' G' O' ch' co' nw' → (∀ k, Fl' k → grow Fl w.heap.size k ∧ k < n) →
      O'.length ≤ B' → G'.length ≤ B' → 0 ≤ nw' → nw' ≤ B' → 0 ≤ co' → co' ≤ B' → (O' = [] → nw' = 0) → T.S.tick ≤ B' → Only F w w' ∧ PB N w' b (fun k => grow F w.heap.size k ∧ k < n) { T with G := G', O := O', ch := ch' } B' := by
  obtain ⟨Fg, Fl, mm, pr, ev, co, nw, hx, hd⟩ := h
  refine ⟨Fl, co, nw, hx.log, fun k hk => hd.foot k (.inr (.inr (.inl hk))), hd.abv.l, hd.o, hd.g, hd.n0, hd.n1, hd.c0, hd.c1, hd.nz, ?_⟩
  intro w' Fl' G' O' ch' co' nw' B' n ho hn1 hn2 hl hf e1 e2 e3 e4 e5 e6 e7 e8
  have hx' : PlainX w' b Fg Fl' mm pr ev T.S T.cs ⟨G', O', ch', co', nw'⟩ := hx.setLog (L' := ⟨G', O', ch', co', nw'⟩) ho hl (fun k hk => ⟨(hf k hk).1, by have := (hf k hk).2; omega⟩)
  refine ⟨ho.mono (fun k hk => hd.foot k (.inr (.inr (.inl hk)))), Fg, Fl', mm, pr, ev, co', nw', hx', ⟨hd.abv.b, hd.abv.g, fun k hk => (hf k hk).1.elim (hd.abv.l k) (fun e => by have := hd.abv.b; have := hx.blk.lt; omega), hd.abv.p, hd.abv.o⟩, hd.sane, fun k hk => ?_, e1, e3, e4, e5, e6, e2, e7, e8, hd.logs⟩
  rcases hk with hk | hk | hk | hk
  · exact ⟨.inl (hd.foot k (.inl hk)), by subst hk; have := hx.blk.lt; omega⟩
  · exact ⟨.inl (hd.foot k (.inr (.inl hk))), by have := hx.bg k hk; omega⟩
  · exact ⟨(hf k hk).1.elim (fun e => .inl (hd.foot k (.inr (.inr (.inl e))))) .inr, (hf k hk).2⟩
  · have hq : plFoot b Fg Fl mm T.S k := .inr (.inr (.inr hk))
    exact ⟨.inl (hd.foot k hq), by have := hx.foot_lt hq; omega⟩
/-- Only the buffer's own block turned. -/
theorem PB.turn {S2 : BS} (h : PB N w b F T B) (ho : Only (fun k => k = b) w w') (hk : BufB w' b S2) (h2 : S2.t = T.S.t ∧ S2.m = T.S.m ∧ S2.p = T.S.p ∧ S2.o = T.S.o ∧ S2.l = T.S.l ∧ S2.saved = T.S.saved)
    (hs : Sane S2 T.cs.length) (ht : S2.tick ≤ B) (hl : S2.logs = true) : Only F w w' ∧ PB N w' b F { T with S := S2 } B := by
  obtain ⟨Fg, Fl, mm, pr, ev, co, nw, hx, hd⟩ := h
  obtain ⟨e1, e2, e3, e4, e5, e6⟩ := h2
  refine ⟨ho.mono (fun k hk => hk ▸ hd.foot b (.inl rfl)), Fg, Fl, mm, pr, ev, co, nw, ⟨hk, ?_, ?_, ?_, ?_, ?_, by rw [← hx.sv]; exact e6, hx.fgl, by rw [e2, e3, e4]; exact hx.fg, by rw [e2, e3, e4]; exact hx.fl, by rw [e2, e3, e4]; exact hx.ne, fun k hk => Nat.lt_of_lt_of_le (hx.bg k hk) ho.size, fun k hk => Nat.lt_of_lt_of_le (hx.bl k hk) ho.size⟩,
    ⟨hd.abv.b, hd.abv.g, hd.abv.l, by dsimp only; rw [e3]; exact hd.abv.p, by dsimp only; rw [e4]; exact hd.abv.o⟩, hs, fun k hk => hd.foot k ?_, hd.o, hd.n0, hd.n1, hd.c0, hd.c1, hd.g, hd.nz, ht, hl⟩
  · rw [e1]; exact hx.gap.only ho (fun k hk _ e => hx.fg.1 (e ▸ hk))
  · rw [e5]; exact hx.log.only ho (fun k hk _ e => hx.fl.1 (e ▸ hk))
  · rw [e2]; exact hx.mks.only ho (fun e => hx.ne.1 e.symm) (fun e => hx.ne.2.1 e.symm)
  · rw [e3]; exact hx.prs.only ho (fun e => hx.ne.2.2.1 e.symm)
  · rw [e4]; exact hx.ovs.only ho (fun e => hx.ne.2.2.2.1 e.symm)
  · unfold plFoot at hk ⊢; dsimp only at hk; rw [e2, e3, e4] at hk; exact hk
theorem PB.tick (h : PB N w b F T B) : T.S.tick ≤ B := by obtain ⟨_, _, _, _, _, _, _, _, hd⟩ := h; exact hd.tick
/-- Behind stand. -/
def standT (T : Tx) (a : Nat) : Tx := { T with S := { T.S with pt := min (max a T.S.lo) T.S.hi } }
theorem pstand (h : PB N w b F T B) (a : Nat) : Calls Tryz.prog 165 #[pAt b, .int .i64 a] w fun r w' => r = .returned (.tuple #[]) ∧ Only F w w' ∧ PB N w' b F (standT T a) B := by
  refine (stand_ok h.blk a).mono ?_
  rintro r w' ⟨rfl, ho, hk⟩
  have hs := h.sane
  have g2 := hs.lp; have g3 := hs.ph
  exact ⟨rfl, h.turn ho hk ⟨rfl, rfl, rfl, rfl, rfl, rfl⟩ ⟨hs.l1, by dsimp only; omega, by dsimp only; omega, hs.hn, hs.ma⟩ h.tick h.logs⟩
/-- A change that can be undone at a state. -/
def RevOk (T : Tx) (c : Chg) : Prop :=
  (c.k = 1 ∧ 1 ≤ c.a ∧ c.a ≤ c.b ∧ c.b ≤ T.cs.length + 1) ∨ (c.k = 2 ∧ 1 ≤ c.a ∧ c.a ≤ T.cs.length + 1 ∧ (charsD c.tx.data.toList).isSome = true ∧ c.tx.size ≤ 262144 ∧ T.cs.length + (chrs c.tx).length ≤ 65536) ∨ (c.k = 4 ∧ 0 ≤ c.a) ∨ c.k = 6
/-- Behind revert. -/
def revT (T : Tx) (c : Chg) : Tx :=
  if c.k = 1 then standT (takeT T c.a.toNat c.b.toNat) c.a.toNat else if c.k = 2 then standT (putT T c.a.toNat (chrs c.tx) false) c.a.toNat else if c.k = 4 then standT T c.a.toNat else { T with S := { T.S with clean := T.S.tick } }
def revC (c : Chg) : Nat := if c.k = 1 then (c.b.toNat - c.a.toNat) + 4 else 4
end
section
variable {N : Nat} {w w' : World} {b mm : Nat} {F F' Fg Fl : Nat → Prop} {pr ev : Int} {T T' : Tx} {co nw co' nw' : Int} {B B' : Nat}
theorem PB.growF {n m : Nat} (h : PB N w b (grow F n) T B) (hm : m ≤ n) : PB N w b (grow F m) T B := h.mono (grow_mono (fun k h => h) hm) (Nat.le_refl _)
end
end Go.Proofs.YtcfdalmllegefaaGreatDoor
/- Regions that draw their order, as in the text Mix; making a function value is among the pure operations. -/
namespace Go.Proofs.YtcfdalmllegefaaGreatDoor
open Go.RowKit
set_option linter.unusedVariables false
/-- An operation that yields a value and leaves the world. -/
def pureOpF (o : Oper) : Bool := match o.op with
  | .move _ | .assign _ | .pick _ _ _ | .build _ _ | .load _ _ | .nilCheck _ | .binOp _ _ _ _ _ | .unOp _ _ _ | .convert _ _ _ | .slice _ _ _ _ _ | .fieldAddr _ _ _ | .field _ _ _ | .indexAddr _ _ _ | .index _ _ _ | .lookup _ _ _ _ | .extract _ _ | .makeFunc (.func _) _ _ => true
  | .call c => match c.callee with
    | .builtin .len => true
    | .builtin .cap => true
    | _ => false
  | _ => false

theorem pure_valF {P : Program} {w w' : World} {ρ : Operand → Value} {o : Oper} {nx : Next} (hp : pureOpF o = true) (h : (execOp ρ o).run P w = .ok nx w') : ∃ u, nx = .value u := by
  suffices H : ValOnly (execOp ρ o) from H _ _ _ _ h
  clear h
  unfold pureOpF at hp
  unfold execOp
  cases ho : o.op <;> simp only [] <;> first
    | exact ValOnly.bind _ _ fun _ => ValOnly.pure _
    | exact ValOnly.pure _
    | (exfalso; rw [ho] at hp; simp at hp; done)
    | skip
  case nilCheck x =>
    split <;> first
      | exact val_panic
      | exact ValOnly.pure _
      | skip
    split <;> first
      | exact val_panic
      | exact ValOnly.pure _
      | skip
    refine ValOnly.bind _ _ fun _ => ValOnly.bind _ _ fun _ => ?_
    split
    · exact ValOnly.bind _ _ fun _ => ValOnly.pure _
    · exact ValOnly.pure _
  case call c =>
    rw [ho] at hp
    simp only at hp
    cases hc : c.callee <;> rw [hc] at hp <;> (try (simp at hp; done))
    rename_i b
    intro P w nx w' h
    cases b <;> (try (simp at hp; done)) <;> simp only [resolve, hc, Sem.run_bind, Sem.run_pure, Result.andThen_ok, invoke, builtin] at h <;> exact ValOnly.bind _ _ (fun _ => ValOnly.pure _) P w nx w' (by simpa only [Sem.run_bind, Sem.run_pure] using h)

section
variable {P : Program} {ops : Array Oper} {md : Region.Mode} {S : World → Prop} {Q : Exit → Act → World → Prop}

theorem yieldsIf_of_inF {o : Oper} {v : Value} {a : Act} (hp : pureOpF o = true) (h : YieldsIn P ops S o v a) : YieldsIf P ops S o v a := by
  rcases h with ⟨hw, h⟩ | h
  · refine .inl ⟨hw, fun w hS => ?_⟩
    have h1 := h w hS
    unfold Oper.quietAt at h1
    cases hr : (execOp a.eval o).run P w with
    | halt x w' => rw [hr] at h1; simp [Oper.quietUpon] at h1
    | ok nx w' =>
      rw [hr] at h1
      obtain ⟨u, rfl⟩ := pure_valF hp hr
      simp only [Oper.quietUpon] at h1
      obtain ⟨rfl, rfl⟩ := h1
      rfl
  · exact .inr h

def segBF (md : Region.Mode) (l : List Oper) (n : Nat) : List Nat → Array Bool → Option (Array Bool)
  | [], listed => some listed
  | i :: r, listed => if ((l[i]?).map pureOpF).getD false && decide (i < n) && (Region.ready md l.toArray listed).contains i && Region.free md l.toArray listed i then segBF md l n r (listed.setIfInBounds i true) else none
def mixBF (md : Region.Mode) (l : List Oper) (n : Nat) (last : List Nat) : List (List Nat × Nat) → Array Bool → Bool
  | [], listed => match segBF md l n last listed with
    | none => false
    | some l' => Region.seqB md l.toArray (l.length - n) n l'
  | (seg, i) :: r, listed => match segBF md l n seg listed with
    | none => false
    | some l' => decide (Region.ready md l.toArray l' = [i]) && decide (i < n) && mixBF md l n last r (l'.setIfInBounds i true)
def mixAllF (l : List Oper) (n : Nat) (plan : List (List Nat × Nat)) (last : List Nat) : Bool :=
  Region.noSelect l.toArray && (decide (n = l.length) || (decide (n < l.length) && Region.sinkB .any l.toArray n && Region.chainB .any l.toArray n)) && decide (cntM plan + last.length = n) && mixBF .any l n last plan (Array.replicate l.length false)

theorem seg_headMF {l : List Oper} {n : Nat} {L : Array Bool → Act → World → Prop} (hsel : Region.noSelect l.toArray = true) (hQ : ∀ c d v a w, Q (.panic c) (Act.put a d v) w → Q (.panic c) a w)
    (htw : ∀ listed, HeadInv md l.toArray n listed → ∀ i, i < n → listed.getD i true = false → ∀ t, n ≤ t → t ∉ Region.ready md l.toArray listed) (hdone : ∀ listed a w, L listed a w → ∀ j ∈ Region.ready md l.toArray listed, n ≤ j) :
    ∀ (seg : List Nat) (listed l' : Array Bool) (f : Nat) (K : Act → Prop) (a : Act) (w : World), HeadInv md l.toArray n listed → segBF md l n seg listed = some l' → S w → wpQuiet P l.toArray S K (pk l seg) a →
      (HeadInv md l.toArray n l' → ∀ a', K a' → headM P md l.toArray S Q n L f l' a' w) → headM P md l.toArray S Q n L (seg.length + f) listed a w
  | [], listed, l', f, K, a, w, inv, hB, hS, h, hK => by
    simp only [segBF, Option.some.injEq] at hB
    subst hB
    rw [List.length_nil, Nat.zero_add]
    exact hK inv a h
  | i :: seg, listed, l', f, K, a, w, inv, hB, hS, h, hK => by
    unfold segBF at hB
    split at hB
    · rename_i hc
      simp only [Bool.and_eq_true, decide_eq_true_eq] at hc
      obtain ⟨⟨⟨hp, hin⟩, hr⟩, hf⟩ := hc
      cases ho : l[i]? with
      | none => rw [ho] at hp; simp at hp
      | some o =>
        rw [ho] at hp
        have hp' : pureOpF o = true := by simpa using hp
        have ho' : l.toArray[i]? = some o := by simpa using ho
        have hr' : i ∈ Region.ready md l.toArray listed := by simpa using hr
        have hst : qOp P l.toArray S i (wpQuiet P l.toArray S K (pk l seg)) a := by
          unfold qOp
          simp only [ho']
          have e : pk l (i :: seg) = o :: pk l seg := by rw [pk_cons, pushAt_eq _ _ _ ho]
          rw [e] at h
          exact h
        obtain ⟨v, hy, hk⟩ := yieldsIn_of_qOp ho' hst
        rw [List.length_cons, show seg.length + 1 + f = (seg.length + f) + 1 by omega]
        exact headM_first ho' (Region.noSelect_spec hsel) (fun c a w h => hQ c _ _ a w h) htw hin hdone _ listed a w inv (Region.free_spec ho' hf) hr' (yieldsIf_of_inF hp' hy) hS
          (seg_headMF hsel hQ htw hdone seg _ l' f K _ w (inv.set hr' hin) hB hS hk hK)
    · cases hB

theorem mix_headMF {l : List Oper} {n : Nat} {last : List Nat} (hsel : Region.noSelect l.toArray = true) (hQ : ∀ c d v a w, Q (.panic c) (Act.put a d v) w → Q (.panic c) a w)
    (htw : ∀ listed, HeadInv md l.toArray n listed → ∀ i, i < n → listed.getD i true = false → ∀ t, n ≤ t → t ∉ Region.ready md l.toArray listed) :
    ∀ (plan : List (List Nat × Nat)) (listed : Array Bool) (a : Act) (w : World), HeadInv md l.toArray n listed → mixBF md l n last plan listed = true → S w →
      wpMix P l S Q (fun a w => wpQuiet P l.toArray S (fun a' => wpList P l.toArray Q (l.drop n) a' w) (pk l last) a) plan a w →
      headM P md l.toArray S Q n (fun listed a w => Region.seqB md l.toArray (l.length - n) n listed = true ∧ wpList P l.toArray Q (l.drop n) a w) (cntM plan + last.length) listed a w
  | [], listed, a, w, inv, hB, hS, h => by
    unfold mixBF at hB
    split at hB
    · cases hB
    · rename_i l' hl'
      have := seg_headMF (P := P) (S := S) (Q := Q) (L := fun listed a w => Region.seqB md l.toArray (l.length - n) n listed = true ∧ wpList P l.toArray Q (l.drop n) a w) hsel hQ htw (fun listed a w h => seqB_ready h.1) last listed l' 0 _ a w inv hl' hS h (fun _ a' h' => ⟨hB, h'⟩)
      simpa [cntM] using this
  | (seg, i) :: r, listed, a, w, inv, hB, hS, h => by
    unfold mixBF at hB
    split at hB
    · cases hB
    · rename_i l' hl'
      simp only [Bool.and_eq_true, decide_eq_true_eq] at hB
      obtain ⟨⟨hr, hin⟩, hB⟩ := hB
      have := seg_headMF (P := P) (S := S) (Q := Q) (L := fun listed a w => Region.seqB md l.toArray (l.length - n) n listed = true ∧ wpList P l.toArray Q (l.drop n) a w) hsel hQ htw (fun listed a w h => seqB_ready h.1) seg listed l' (1 + (cntM r + last.length)) _ a w inv hl' hS h (fun inv' a' h' => by
        rw [Nat.add_comm 1]
        refine ⟨by rw [hr]; simp, fun j hj => ?_⟩
        have hj0 := hj
        rw [hr] at hj
        have hji : j = i := by simpa using hj
        subst hji
        refine ⟨hin, ?_⟩
        obtain ⟨_, oj, hoj, _⟩ := mem_ready.1 hj0
        have e : pk l [j] = [oj] := by
          have : l[j]? = some oj := by simpa using hoj
          rw [pk_cons, pushAt_eq _ _ _ this]; rfl
        rw [e] at h'
        exact wpOp_mono (fun a'' w'' h3 => ⟨h3.1, mix_headMF hsel hQ htw r _ a'' w'' (inv'.set hj0 hin) hB h3.1 h3.2⟩) (wpOp_of_list hoj h'))
      simp only [cntM]
      rwa [show seg.length + 1 + cntM r + last.length = seg.length + (1 + (cntM r + last.length)) by omega]
end

/-- What is walked: the plan's pure operations and others, the last pure ones, the tail. S: what lay below N lies as it lay. -/
theorem wp_region_mixF {P : Program} {id : Nat} {Q : Exit → Act → World → Prop} {a : Act} {w : World} {l : List Oper} (N n : Nat) (plan : List (List Nat × Nat)) (last : List Nat) (hm : P.follows .mixedOrders = true) (hQ : ∀ c d v a w, Q (.panic c) (Act.put a d v) w → Q (.panic c) a w)
    (hB : mixAllF l n plan last = true)
    (h : wpMix P l (fun w' => ∃ x : UpW N w, w' = x.w) Q (fun a w1 => wpQuiet P l.toArray (fun w' => ∃ x : UpW N w, w' = x.w) (fun a' => wpList P l.toArray Q (l.drop n) a' w1) (pk l last) a) plan a w.drew) : (Code.region id l.toArray true).wp P Q a w := by
  simp only [mixAllF, Bool.and_eq_true, Bool.or_eq_true, decide_eq_true_eq] at hB
  obtain ⟨⟨⟨hsel, hn⟩, hcnt⟩, hmix⟩ := hB
  have hnl : n ≤ l.length := by rcases hn with h | h <;> omega
  have inv0 : HeadInv .any l.toArray n (Array.replicate l.length false) :=
    ⟨by simp, fun j oj _ hl => (by rw [getD_replicate_false] at hl; cases hl), fun t _ ht => getD_in (by simpa using ht) (getD_replicate_false _ _)⟩
  have htw : ∀ listed, HeadInv .any l.toArray n listed → ∀ i, i < n → listed.getD i true = false → ∀ t, n ≤ t → t ∉ Region.ready .any l.toArray listed := fun listed inv i hi hun t ht hr => by
    rcases hn with hn | ⟨⟨hn, hs⟩, hc⟩
    · obtain ⟨_, ot, hot, _⟩ := mem_ready.1 hr
      have := (Array.getElem?_eq_some_iff.1 hot).1
      simp at this
      omega
    · exact tail_waits hs hc (by simpa using hn) inv _ i rfl hi hun t ht hr
  have H := mix_headMF (md := .any) hsel hQ htw plan _ a w.drew inv0 hmix ⟨⟨w.drew, (Below.refl N w).drew⟩, rfl⟩ h
  refine wp_region_any hm ?_
  have key := any_of_headM (Q := Q) (g := l.length - n) (fun listed a' w' hL => by
    have := wpAny_of_seq (md := .any) (Q' := Q) (l.drop n) n listed a' w' (fun j => by simp [List.getElem?_drop]) (by rw [List.length_drop]; exact hL.1) hL.2
    rwa [List.length_drop] at this) _ _ _ _ H
  rw [hcnt, show n + (l.length - n) = l.toArray.size by simp; omega] at key
  simpa using key
end Go.Proofs.YtcfdalmllegefaaGreatDoor
/- package buffer: Boundary and Undo at a plain buffer. -/
namespace Go.Proofs.YtcfdalmllegefaaGreatDoor
open Go.RowKit Go.Lib
set_option linter.unusedVariables false
set_option linter.unusedSimpArgs false
theorem logShut_len (G : List (List Chg)) (O : List Chg) : (logShut G O).length ≤ G.length + 1 := by unfold logShut; split <;> simp
/-- Behind Boundary. -/
def shutT (T : Tx) : Tx := { T with S := { T.S with empty := true }, G := logShut T.G T.O, O := [] }
section
variable {N : Nat} {w w' : World} {b mm : Nat} {F F' Fg Fl : Nat → Prop} {pr ev : Int} {T T' : Tx} {co nw co' nw' : Int} {B B' : Nat}
theorem plog_bound (h : PB N w b F T B) (hB : B ≤ 900000) : Calls Tryz.prog 111 #[pAt T.S.l] w fun r w' => r = .returned (.int .i64 0) ∧ Only F w w' ∧ PB N w' b (grow F w.heap.size) { T with G := logShut T.G T.O, O := [] } (B + 1) := by
  have htk := h.tick
  obtain ⟨Fl, co, nw, hl, hF, hNl, e1, e2, e3, e4, e5, e6, e7, hback⟩ := h.log
  refine (lboundF hl (by omega) (by omega) e7).mono ?_
  rintro r w' ⟨rfl, hl', ho⟩
  have hll := logShut_len T.G T.O
  obtain ⟨o1, p1⟩ := hback w' _ _ [] _ _ 0 (B + 1) w'.heap.size ho ho.size (Nat.le_refl _) hl'.bound (fun k hk => hk) (by simp) (by omega) (by omega) (by omega) e5 (by omega) (fun _ => rfl) (by omega)
  exact ⟨rfl, o1, p1.mono (fun k hk => hk.1) (Nat.le_refl _)⟩
theorem PB.setEmpty (h : PB N w b F T B) (v : Bool) : Only F w (w.setCell ⟨b, 15, none⟩ (.bool v)) ∧ PB N (w.setCell ⟨b, 15, none⟩ (.bool v)) b F { T with S := { T.S with empty := v } } B := by
  have hs := h.sane
  exact h.turn ((Only.refl (fun k => k = b) w).setCell (p := ⟨b, 15, none⟩) rfl _) (h.blk.set (j := 15) (by simp) (.bool v)) ⟨rfl, rfl, rfl, rfl, rfl, rfl⟩ ⟨hs.l1, hs.lp, hs.ph, hs.hn, hs.ma⟩ h.tick h.logs
set_option maxHeartbeats 1000000 in
theorem bBoundary (h : PB N w b F T B) (hB : B ≤ 900000) : Calls Tryz.prog 43 #[pAt b] w fun r w' => r = .returned (.int .i64 0) ∧ Only F w w' ∧ PB N w' b (grow F w.heap.size) (shutT T) (B + 1) := by
  have c14 : w.cell? ⟨b, 14, none⟩ = some (.bool true) := by rw [← h.logs]; exact h.blk.cell (j := 14) rfl
  have c13 : w.cell? ⟨b, 13, none⟩ = some (pAt T.S.l) := h.blk.cell (j := 13) rfl
  have HN := Lib.hid (bnoneB h.blk)
  have HL := Lib.hid (plog_bound h hB)
  clear h hB
  generalize hl : T.S.l = l at *
  go_enter Tryz.func43, Tryz.ntmps43
  go_wp2_with fail
  refine HN.out.mono ?_
  rintro r w1 ⟨rfl, rfl⟩
  go_wp2_with fail
  refine HL.out.mono ?_
  rintro r w1 ⟨rfl, ho, hp⟩
  have q15 := hp.blk.cell (j := 15) rfl
  have f15 := hp.blk.fz 15
  have HP := Lib.hid hp
  have HO := Lib.hid ho
  clear hp ho
  go_wp2_with fail
  go_ret
  obtain ⟨o2, p2⟩ := HP.out.setEmpty true
  exact ⟨rfl, Only.grow HO.out o2, p2⟩
/-- What the log's Undo makes of a plain buffer. -/
def PUndo (N : Nat) (w : World) (b : Nat) (F : Nat → Prop) (T : Tx) (B : Nat) (c : Int) (r : Ending) (w' : World) : Prop :=
  Only F w w' ∧ ∃ n, w.heap.size ≤ n ∧ n ≤ w'.heap.size ∧
    ((c = 0 ∧ r = .returned (.tuple #[.slice none 0 0, .int .i64 13]) ∧ PB N w' b (fun k => grow F w.heap.size k ∧ k < n) { T with G := logShut T.G T.O, O := [], ch := 0 } (B + 1)) ∨
     ∃ (m : Nat) (g : List Chg) (v : Value), c = ((m + 1 : Nat) : Int) ∧ (logShut T.G T.O)[m]? = some g ∧ r = .returned (.tuple #[v, .int .i64 0]) ∧ PB N w' b (fun k => grow F w.heap.size k ∧ k < n) { T with G := logShut T.G T.O, O := [], ch := m } (B + 1) ∧ ROwn encCg 239 9 n w' v g.reverse)
/-- The changes undone one by one. -/
def revsT (T : Tx) (L : List Chg) : Tx := L.foldl revT T
def revsC (L : List Chg) : Nat := (L.map revC).sum
/-- Each can be undone when its turn comes. -/
def RevsOk : Tx → List Chg → Prop
  | _, [] => True
  | T, c :: L => RevOk T c ∧ RevsOk (revT T c) L
theorem revsT_snoc (T : Tx) (L : List Chg) (c : Chg) : revsT T (L ++ [c]) = revT (revsT T L) c := by unfold revsT; rw [List.foldl_append]; rfl
theorem RevsOk.at_ : ∀ {T : Tx} {L : List Chg} {i : Nat} {c : Chg}, RevsOk T L → L[i]? = some c → RevOk (revsT T (L.take i)) c
  | T, [], i, c, _, h => by simp at h
  | T, d :: L, 0, c, hr, h => by simp at h; subst h; exact hr.1
  | T, d :: L, i + 1, c, hr, h => by
    have := RevsOk.at_ (T := revT T d) (L := L) (i := i) hr.2 (by simpa using h)
    rw [List.take_succ_cons]
    exact this
theorem revsC_snoc (L : List Chg) (c : Chg) : revsC (L ++ [c]) = revsC L + revC c := by unfold revsC; simp
theorem revsC_take : ∀ (L : List Chg) (i : Nat), revsC (L.take i) ≤ revsC L
  | [], i => by simp [revsC]
  | c :: L, 0 => by simp [revsC]
  | c :: L, i + 1 => by
    have := revsC_take L i
    simp only [revsC, List.take_succ_cons, List.map_cons, List.sum_cons] at *
    omega
theorem take_snoc {L : List Chg} {i : Nat} {c : Chg} (h : L[i]? = some c) : L.take (i + 1) = L.take i ++ [c] := by
  rw [List.take_add_one, h]; rfl
/-- What the buffer's Undo makes of a plain buffer. d: what the changes cost. -/
def BUndo (N : Nat) (w : World) (b : Nat) (F : Nat → Prop) (T : Tx) (B d : Nat) (c : Int) (r : Ending) (w' : World) : Prop :=
  Only F w w' ∧ ((c = 0 ∧ r = .returned (.int .i64 13) ∧ PB N w' b (grow F w.heap.size) { shutT T with ch := 0 } (B + 1)) ∨
    ∃ (m : Nat) (g : List Chg), c = ((m + 1 : Nat) : Int) ∧ (logShut T.G T.O)[m]? = some g ∧ r = .returned (.int .i64 0) ∧
      PB N w' b (grow F w.heap.size) (shutT (revsT { shutT T with ch := m } g.reverse)) (B + d + 2))
end
end Go.Proofs.YtcfdalmllegefaaGreatDoor
/- package buffer: Replace at a plain buffer. -/
namespace Go.Proofs.YtcfdalmllegefaaGreatDoor
open Go.RowKit Go.Lib
set_option linter.unusedVariables false
set_option linter.unusedSimpArgs false
/-- Behind Replace. -/
def repT (T : Tx) (x y : Nat) (s : List Nat) : Tx := putT (takeT T x y) x s false
section
variable {N : Nat} {w w' : World} {b mm : Nat} {F F' Fg Fl : Nat → Prop} {pr ev : Int} {T T' : Tx} {co nw co' nw' : Int} {B B' : Nat}
theorem takeT_len {T : Tx} {x y : Nat} (h1 : 1 ≤ x) (hxy : x ≤ y) (hy : y ≤ T.cs.length + 1) : (takeT T x y).cs.length = T.cs.length - (y - x) := by
  unfold takeT
  split
  · rename_i h; subst h; omega
  · exact delC_len h1 hxy hy
theorem grow_self {n m : Nat} (hn : n ≤ m) : ∀ k, grow (grow F n) m k → grow F n k := grow_two hn
set_option maxRecDepth 100000 in
set_option maxHeartbeats 4000000 in
theorem bReplace1 (hT : Tabs N w) (hR : Rules N w) (h : PB N w b F T B) (hF : edF N F) (hB : B ≤ 700000) (hro : T.S.ro = false) (x y : Int) (hxy : x = y) (s : ByteArray) (hs : s.size ≤ 262144) :
    Calls Tryz.prog 54 #[pAt b, .int .i64 x, .int .i64 y, .string s] w fun r w' => r = .returned (.int .i64 (repE T x y s)) ∧ Only F w w' ∧ PB N w' b (grow F w.heap.size) (if repE T x y s = 0 then repT T x.toNat y.toNat (chrs s) else T) (B + T.cs.length + 8) := by
  have hle := h.le
  have hsn := h.sane
  have hgp := gapB_free (S := T.S) hro x
  have hpb : partB T.S = true := by unfold partB; rw [hro]; simp
  have hsl := chrs_len s
  have HB := Lib.hid (⟨hB, hs, hle, hsl, hsn, hF⟩ : _ ∧ _ ∧ _ ∧ _ ∧ _ ∧ _)
  have HT := Lib.hid hT
  have HR := Lib.hid hR
  have H := Lib.hid h
  have HN := Lib.hid (bnoneB h.blk)
  have HG := Lib.hid (⟨hgp, hpb⟩ : _ ∧ _)
  obtain ⟨ls, hls⟩ : ∃ ls : Int, IntKind.i64.wrap (y - x) = ls := ⟨_, rfl⟩
  obtain ⟨E1, hE1⟩ : ∃ E1 : Int, E1 = if reachB T.S x y = true then 0 else 3 := ⟨_, rfl⟩
  obtain ⟨E3, hE3⟩ : ∃ E3 : Int, E3 = fitsE s T.cs.length ls := ⟨_, rfl⟩
  have hlr : reachB T.S x y = true → ls = y - x := fun hq => by
    have h1 := reach_iff.1 hq
    rw [← hls]
    exact IntWalk.i64_in _ (by have := hsn.hn; omega)
  have hPE : repE T x y s = if E1 = 0 then E3 else E1 := by
    unfold repE; rw [hE1, hE3]
    by_cases hq : reachB T.S x y = true
    · rw [if_pos hq, if_pos hq, if_pos rfl, hlr hq]
    · rw [if_neg hq, if_neg hq, if_neg (by omega)]
  obtain ⟨E, hE⟩ : ∃ E : Int, E = repE T x y s := ⟨_, rfl⟩
  rw [← hE] at hPE ⊢
  obtain ⟨T2, hT2⟩ : ∃ T2 : Tx, T2 = (if E = 0 then repT T x.toNat y.toNat (chrs s) else T) := ⟨_, rfl⟩
  rw [← hT2]
  have HT2 := Lib.hid hT2
  clear hT2
  have HE1 := Lib.hid hE1
  have HE3 := Lib.hid hE3
  have HPE := Lib.hid hPE
  have HE := Lib.hid hE
  have HLR := Lib.hid hlr
  have dx : ((x : Int) == y) = true := by simpa using hxy
  have nx : (x = y) = True := eq_true hxy
  have HXY := Lib.hid hxy
  clear hT hR h hB hs hle hsl hsn hF hgp hpb hro hE1 hE3 hPE hE hlr hxy
  go_enter Tryz.func54, Tryz.ntmps54
  go_wp2_with fail
  refine HN.out.mono ?_
  rintro e w0 ⟨rfl, rfl⟩
  go_wp2_with fail
  refine (partOpen_ok H.out.blk H.out.prs x y).mono ?_
  rintro e w1 ⟨k8, k9, rfl, hb1, hcc⟩
  rw [HG.out.2] at hcc ⊢
  have B1 := Lib.hid hb1
  clear hb1 hcc
  go_wp2_with fail
  refine (gapOpen_ok (H.out.blk.up B1.out) (H.out.up B1.out).getAt x).mono ?_
  rintro e w2 ⟨k3, k4, rfl, hb2, hc2⟩
  rw [HG.out.1] at hc2 ⊢
  change ChkAt w2 _ (unlC k3 k4 0) at hc2
  have C2 := Lib.hid hc2
  have B2 := Lib.hid (up2 B1.out hb2)
  clear hc2 hb2 B1
  go_wp2_with fail
  refine (within_ok (H.out.blk.up B2.out) x y).mono ?_
  rintro e w6 ⟨k1, k2, rfl, hb6, hc1⟩
  rw [← HE1.out] at hc1 ⊢
  have C1 := Lib.hid hc1
  have B6 := Lib.hid (up2 B2.out hb6)
  have C22 := Lib.hid (C2.out.up hb6)
  clear hc1 hb6 C2 B2 HN
  go_wp2_with fail
  refine (fits_ok (n := T.cs.length) (HT.out.up B6.out) (H.out.blk.up B6.out) s (by have := HB.out; omega) ls (by have := HB.out; omega) (H.out.up B6.out).size).mono ?_
  rintro e w3 ⟨k5, k6, k7, rfl, hb3, hc3⟩
  rw [← HE3.out] at hc3 ⊢
  have C3 := Lib.hid hc3
  have B3 := Lib.hid (up2 B6.out hb3)
  have C13 := Lib.hid (C1.out.up hb3)
  have C23 := Lib.hid (C22.out.up hb3)
  clear hc3 hb3 C1 C22 B6
  go_wp2_with fail
  have hb4 := below1 w3 (.cells #[(unlC k1 k2 E1).val, (unlC k3 k4 0).val, (fitC k5 k6 k7 E3).val] 69)
  have hR3 := RSl.arr (enc := encK) (zs := [unlC k1 k2 E1, unlC k3 k4 0, fitC k5 k6 k7 E3]) (MapKept.heap_alloc w3 (.cells #[(unlC k1 k2 E1).val, (unlC k3 k4 0).val, (fitC k5 k6 k7 E3).val] 69)).1 rfl
  have HF := first_any hR3 3 (by simp) (by
    intro c hc
    simp only [List.mem_cons, List.not_mem_nil, or_false] at hc
    rcases hc with rfl | rfl | rfl
    · exact C13.out.en
    · exact C23.out.en
    · exact C3.out.en) (by
    intro i c w4 hi hz hb
    rcases i with _ | _ | _ | i
    · cases hi; exact C13.out.run trivial w4 (up2 hb4 hb)
    · cases hi
      have h0 : E1 = 0 := hz 0 (unlC k1 k2 E1) rfl (by omega)
      have hq := reach_of0 (HE1.out.symm.trans h0)
      exact C23.out.run ⟨by have := HB.out.2.2.2.2.1.l1; omega, by have := HB.out.2.2.2.2.1.hn; have := HB.out; omega⟩ w4 (up2 hb4 hb)
    · cases hi
      have h0 : E1 = 0 := hz 0 (unlC k1 k2 E1) rfl (by omega)
      have hq := reach_of0 (HE1.out.symm.trans h0)
      have hl := HLR.out (reach_iff.2 hq)
      exact C3.out.run ⟨by omega, by have := HB.out.2.2.2.2.1.hn; have := HB.out.2.2.2.2.1.l1; omega⟩ w4 (up2 hb4 hb)
    · simp at hi)
  have B4 := Lib.hid (up2 B3.out hb4)
  have hfe : firstE [unlC k1 k2 E1, unlC k3 k4 0, fitC k5 k6 k7 E3] = E := by
    rw [firstE3, HPE.out]; rfl
  rw [hfe] at HF
  have HF := Lib.hid HF
  clear hR3 hb4 C13 C23 C3 B3 hfe
  refine HF.out.mono ?_
  rintro e w5 ⟨rfl, hb5⟩
  have B5 := Lib.hid (up2 B4.out hb5)
  clear hb5 B4 HF
  by_cases hE : E = 0
  · have h1 : E1 = 0 := by
      have h2 := HPE.out
      rw [hE] at h2
      split at h2
      · assumption
      · exact h2.symm
    have hq := reach_of0 (HE1.out.symm.trans h1)
    have h3 : E3 = 0 := by have h2 := HPE.out; rw [if_pos h1, hE] at h2; exact h2.symm
    have hft := fits0 (HE3.out.symm.trans h3)
    rw [HLR.out (reach_iff.2 hq)] at hft
    have hsn := HB.out.2.2.2.2.1
    have g1 := hsn.l1
    have g4 := hsn.hn
    have H5 := Lib.hid (H.out.up B5.out)
    obtain ⟨n, hn⟩ : ∃ n : Nat, x = n := ⟨x.toNat, by omega⟩
    obtain ⟨m, hm⟩ : ∃ m : Nat, y = m := ⟨y.toNat, by omega⟩
    have HX := Lib.hid (ptake (HT.out.up B5.out) (HR.out.up B5.out) H5.out (by have := HB.out.1; omega) n m (by omega) (by omega) (by omega))
    rw [← hn, ← hm] at HX
    have hlen := takeT_len (T := T) (x := n) (y := m) (by omega) (by omega) (by omega)
    have HE0 := Lib.hid hE
    have HNN := Lib.hid (⟨show x.toNat = n by omega, show y.toNat = m by omega, hlen, show n ≤ T.cs.length + 1 by omega, show n ≤ m by omega, show m ≤ T.cs.length + 1 by omega, hft, hn, show 1 ≤ n by omega, hm⟩ : _ ∧ _ ∧ _ ∧ _ ∧ _ ∧ _ ∧ _ ∧ _ ∧ _ ∧ _)
    clear hq hft hsn g1 g4 h1 h3 hn hm hlen
    rw [hE]
    go_wp2_with fail
    refine HX.out.mono ?_
    rintro e w6 ⟨rfl, ho6, hp6⟩
    have P6 := Lib.hid hp6.bound
    have O6 := Lib.hid ho6
    have HY := Lib.hid (pput ((HT.out.up B5.out).only ho6 (fun k hk => HB.out.2.2.2.2.2 k hk)) ((HR.out.up B5.out).only ho6 (fun k hk => HB.out.2.2.2.2.2 k hk)) P6.out (by have := HB.out; have := HNN.out; omega) n (by have := HNN.out; omega) (by have := HNN.out; omega) s HB.out.2.1 HNN.out.2.2.2.2.2.2.1.1 (by have := HNN.out; omega) false)
    rw [← HNN.out.2.2.2.2.2.2.2.1] at HY
    clear ho6 hp6 HX
    go_wp2_with fail
    refine HY.out.mono ?_
    rintro e w7 ⟨rfl, ho7, hp7⟩
    have z5 := O6.out.size
    have hsub : ∀ k, grow (fun k => grow F w5.heap.size k ∧ k < w6.heap.size) w6.heap.size k → grow F w5.heap.size k := fun k hk => hk.elim (fun e => e.1) (fun e => .inr (by omega))
    have HP7 := Lib.hid (PB.then (T1 := T) (B1 := B) B5.out ⟨O6.out.then ho7 (fun k hk hlt => hk.1.elim id (fun e => by omega)), hp7.mono hsub (Nat.le_refl _)⟩)
    clear ho7 hp7 hsub
    go_wp2_with fail
    go_ret
    refine ⟨by rw [HE0.out]; rfl, HP7.out.1, ?_⟩
    rw [HT2.out, if_pos HE0.out, HNN.out.1, HNN.out.2.1]
    exact HP7.out.2.mono (fun k hk => hk) (by have := HNN.out; omega)
  · have e1 : ((E : Int) == 0) = false := by simpa using hE
    have e2 : (E = 0) = False := eq_false hE
    have HEN := Lib.hid hE
    clear hE
    go_wp2_with fail
    go_ret
    refine ⟨rfl, ?_⟩
    rw [HT2.out, if_neg HEN.out]
    exact H.out.stay B5.out (T.cs.length + 8)
set_option maxRecDepth 100000 in
set_option maxHeartbeats 4000000 in
theorem bReplace2 (hT : Tabs N w) (hR : Rules N w) (h : PB N w b F T B) (hF : edF N F) (hB : B ≤ 700000) (hro : T.S.ro = false) (x y : Int) (hxy : ¬ x = y) (s : ByteArray) (hs : s.size ≤ 262144) :
    Calls Tryz.prog 54 #[pAt b, .int .i64 x, .int .i64 y, .string s] w fun r w' => r = .returned (.int .i64 (repE T x y s)) ∧ Only F w w' ∧ PB N w' b (grow F w.heap.size) (if repE T x y s = 0 then repT T x.toNat y.toNat (chrs s) else T) (B + T.cs.length + 8) := by
  have hle := h.le
  have hsn := h.sane
  have hgp := gapB_free (S := T.S) hro x
  have hpb : partB T.S = true := by unfold partB; rw [hro]; simp
  have hsl := chrs_len s
  have HB := Lib.hid (⟨hB, hs, hle, hsl, hsn, hF⟩ : _ ∧ _ ∧ _ ∧ _ ∧ _ ∧ _)
  have HT := Lib.hid hT
  have HR := Lib.hid hR
  have H := Lib.hid h
  have HN := Lib.hid (bnoneB h.blk)
  have HG := Lib.hid (⟨hgp, hpb⟩ : _ ∧ _)
  obtain ⟨ls, hls⟩ : ∃ ls : Int, IntKind.i64.wrap (y - x) = ls := ⟨_, rfl⟩
  obtain ⟨E1, hE1⟩ : ∃ E1 : Int, E1 = if reachB T.S x y = true then 0 else 3 := ⟨_, rfl⟩
  obtain ⟨E3, hE3⟩ : ∃ E3 : Int, E3 = fitsE s T.cs.length ls := ⟨_, rfl⟩
  have hlr : reachB T.S x y = true → ls = y - x := fun hq => by
    have h1 := reach_iff.1 hq
    rw [← hls]
    exact IntWalk.i64_in _ (by have := hsn.hn; omega)
  have hPE : repE T x y s = if E1 = 0 then E3 else E1 := by
    unfold repE; rw [hE1, hE3]
    by_cases hq : reachB T.S x y = true
    · rw [if_pos hq, if_pos hq, if_pos rfl, hlr hq]
    · rw [if_neg hq, if_neg hq, if_neg (by omega)]
  obtain ⟨E, hE⟩ : ∃ E : Int, E = repE T x y s := ⟨_, rfl⟩
  rw [← hE] at hPE ⊢
  obtain ⟨T2, hT2⟩ : ∃ T2 : Tx, T2 = (if E = 0 then repT T x.toNat y.toNat (chrs s) else T) := ⟨_, rfl⟩
  rw [← hT2]
  have HT2 := Lib.hid hT2
  clear hT2
  have HE1 := Lib.hid hE1
  have HE3 := Lib.hid hE3
  have HPE := Lib.hid hPE
  have HE := Lib.hid hE
  have HLR := Lib.hid hlr
  have dx : ((x : Int) == y) = false := by simpa using hxy
  have nx : (x = y) = False := eq_false hxy
  have HXY := Lib.hid hxy
  clear hT hR h hB hs hle hsl hsn hF hgp hpb hro hE1 hE3 hPE hE hlr hxy
  go_enter Tryz.func54, Tryz.ntmps54
  go_wp2_with fail
  refine HN.out.mono ?_
  rintro e w0 ⟨rfl, rfl⟩
  go_wp2_with fail
  refine (partOpen_ok H.out.blk H.out.prs x y).mono ?_
  rintro e w2 ⟨k3, k4, rfl, hb2, hc2⟩
  rw [HG.out.2] at hc2 ⊢
  change ChkAt w2 _ (unlC k3 k4 0) at hc2
  have C2 := Lib.hid hc2
  have B2 := Lib.hid hb2
  clear hc2 hb2
  go_wp2_with fail
  refine (within_ok (H.out.blk.up B2.out) x y).mono ?_
  rintro e w6 ⟨k1, k2, rfl, hb6, hc1⟩
  rw [← HE1.out] at hc1 ⊢
  have C1 := Lib.hid hc1
  have B6 := Lib.hid (up2 B2.out hb6)
  have C22 := Lib.hid (C2.out.up hb6)
  clear hc1 hb6 C2 B2 HN
  go_wp2_with fail
  refine (fits_ok (n := T.cs.length) (HT.out.up B6.out) (H.out.blk.up B6.out) s (by have := HB.out; omega) ls (by have := HB.out; omega) (H.out.up B6.out).size).mono ?_
  rintro e w3 ⟨k5, k6, k7, rfl, hb3, hc3⟩
  rw [← HE3.out] at hc3 ⊢
  have C3 := Lib.hid hc3
  have B3 := Lib.hid (up2 B6.out hb3)
  have C13 := Lib.hid (C1.out.up hb3)
  have C23 := Lib.hid (C22.out.up hb3)
  clear hc3 hb3 C1 C22 B6
  go_wp2_with fail
  have hb4 := below1 w3 (.cells #[(unlC k1 k2 E1).val, (unlC k3 k4 0).val, (fitC k5 k6 k7 E3).val] 69)
  have hR3 := RSl.arr (enc := encK) (zs := [unlC k1 k2 E1, unlC k3 k4 0, fitC k5 k6 k7 E3]) (MapKept.heap_alloc w3 (.cells #[(unlC k1 k2 E1).val, (unlC k3 k4 0).val, (fitC k5 k6 k7 E3).val] 69)).1 rfl
  have HF := first_any hR3 3 (by simp) (by
    intro c hc
    simp only [List.mem_cons, List.not_mem_nil, or_false] at hc
    rcases hc with rfl | rfl | rfl
    · exact C13.out.en
    · exact C23.out.en
    · exact C3.out.en) (by
    intro i c w4 hi hz hb
    rcases i with _ | _ | _ | i
    · cases hi; exact C13.out.run trivial w4 (up2 hb4 hb)
    · cases hi
      have h0 : E1 = 0 := hz 0 (unlC k1 k2 E1) rfl (by omega)
      have hq := reach_of0 (HE1.out.symm.trans h0)
      exact C23.out.run ⟨by have := HB.out.2.2.2.2.1.l1; omega, by omega, by have := HB.out.2.2.2.2.1.hn; have := HB.out; omega⟩ w4 (up2 hb4 hb)
    · cases hi
      have h0 : E1 = 0 := hz 0 (unlC k1 k2 E1) rfl (by omega)
      have hq := reach_of0 (HE1.out.symm.trans h0)
      have hl := HLR.out (reach_iff.2 hq)
      exact C3.out.run ⟨by omega, by have := HB.out.2.2.2.2.1.hn; have := HB.out.2.2.2.2.1.l1; omega⟩ w4 (up2 hb4 hb)
    · simp at hi)
  have B4 := Lib.hid (up2 B3.out hb4)
  have hfe : firstE [unlC k1 k2 E1, unlC k3 k4 0, fitC k5 k6 k7 E3] = E := by
    rw [firstE3, HPE.out]; rfl
  rw [hfe] at HF
  have HF := Lib.hid HF
  clear hR3 hb4 C13 C23 C3 B3 hfe
  refine HF.out.mono ?_
  rintro e w5 ⟨rfl, hb5⟩
  have B5 := Lib.hid (up2 B4.out hb5)
  clear hb5 B4 HF
  by_cases hE : E = 0
  · have h1 : E1 = 0 := by
      have h2 := HPE.out
      rw [hE] at h2
      split at h2
      · assumption
      · exact h2.symm
    have hq := reach_of0 (HE1.out.symm.trans h1)
    have h3 : E3 = 0 := by have h2 := HPE.out; rw [if_pos h1, hE] at h2; exact h2.symm
    have hft := fits0 (HE3.out.symm.trans h3)
    rw [HLR.out (reach_iff.2 hq)] at hft
    have hsn := HB.out.2.2.2.2.1
    have g1 := hsn.l1
    have g4 := hsn.hn
    have H5 := Lib.hid (H.out.up B5.out)
    obtain ⟨n, hn⟩ : ∃ n : Nat, x = n := ⟨x.toNat, by omega⟩
    obtain ⟨m, hm⟩ : ∃ m : Nat, y = m := ⟨y.toNat, by omega⟩
    have HX := Lib.hid (ptake (HT.out.up B5.out) (HR.out.up B5.out) H5.out (by have := HB.out.1; omega) n m (by omega) (by omega) (by omega))
    rw [← hn, ← hm] at HX
    have hlen := takeT_len (T := T) (x := n) (y := m) (by omega) (by omega) (by omega)
    have HE0 := Lib.hid hE
    have HNN := Lib.hid (⟨show x.toNat = n by omega, show y.toNat = m by omega, hlen, show n ≤ T.cs.length + 1 by omega, show n ≤ m by omega, show m ≤ T.cs.length + 1 by omega, hft, hn, show 1 ≤ n by omega, hm⟩ : _ ∧ _ ∧ _ ∧ _ ∧ _ ∧ _ ∧ _ ∧ _ ∧ _ ∧ _)
    clear hq hft hsn g1 g4 h1 h3 hn hm hlen
    rw [hE]
    go_wp2_with fail
    refine HX.out.mono ?_
    rintro e w6 ⟨rfl, ho6, hp6⟩
    have P6 := Lib.hid hp6.bound
    have O6 := Lib.hid ho6
    have HY := Lib.hid (pput ((HT.out.up B5.out).only ho6 (fun k hk => HB.out.2.2.2.2.2 k hk)) ((HR.out.up B5.out).only ho6 (fun k hk => HB.out.2.2.2.2.2 k hk)) P6.out (by have := HB.out; have := HNN.out; omega) n (by have := HNN.out; omega) (by have := HNN.out; omega) s HB.out.2.1 HNN.out.2.2.2.2.2.2.1.1 (by have := HNN.out; omega) false)
    rw [← HNN.out.2.2.2.2.2.2.2.1] at HY
    clear ho6 hp6 HX
    go_wp2_with fail
    refine HY.out.mono ?_
    rintro e w7 ⟨rfl, ho7, hp7⟩
    have z5 := O6.out.size
    have hsub : ∀ k, grow (fun k => grow F w5.heap.size k ∧ k < w6.heap.size) w6.heap.size k → grow F w5.heap.size k := fun k hk => hk.elim (fun e => e.1) (fun e => .inr (by omega))
    have HP7 := Lib.hid (PB.then (T1 := T) (B1 := B) B5.out ⟨O6.out.then ho7 (fun k hk hlt => hk.1.elim id (fun e => by omega)), hp7.mono hsub (Nat.le_refl _)⟩)
    clear ho7 hp7 hsub
    go_wp2_with fail
    go_ret
    refine ⟨by rw [HE0.out]; rfl, HP7.out.1, ?_⟩
    rw [HT2.out, if_pos HE0.out, HNN.out.1, HNN.out.2.1]
    exact HP7.out.2.mono (fun k hk => hk) (by have := HNN.out; omega)
  · have e1 : ((E : Int) == 0) = false := by simpa using hE
    have e2 : (E = 0) = False := eq_false hE
    have HEN := Lib.hid hE
    clear hE
    go_wp2_with fail
    go_ret
    refine ⟨rfl, ?_⟩
    rw [HT2.out, if_neg HEN.out]
    exact H.out.stay B5.out (T.cs.length + 8)
theorem bReplace (hT : Tabs N w) (hR : Rules N w) (h : PB N w b F T B) (hF : edF N F) (hB : B ≤ 700000) (hro : T.S.ro = false) (x y : Int) (s : ByteArray) (hs : s.size ≤ 262144) :
    Calls Tryz.prog 54 #[pAt b, .int .i64 x, .int .i64 y, .string s] w fun r w' => r = .returned (.int .i64 (repE T x y s)) ∧ Only F w w' ∧ PB N w' b (grow F w.heap.size) (if repE T x y s = 0 then repT T x.toNat y.toNat (chrs s) else T) (B + T.cs.length + 8) := by
  by_cases hxy : x = y
  · exact bReplace1 hT hR h hF hB hro x y hxy s hs
  · exact bReplace2 hT hR h hF hB hro x y hxy s hs
end
end Go.Proofs.YtcfdalmllegefaaGreatDoor
/- package buffer: Text, All, Size, Point, Reach, Char, Narrow, Widen at a plain buffer; Save and Restore, one excursion. -/
namespace Go.Proofs.YtcfdalmllegefaaGreatDoor
open Go.RowKit Go.Lib
set_option linter.unusedVariables false
set_option linter.unusedSimpArgs false
theorem subL_all (cs : List Nat) : subL cs 1 (cs.length + 1) = cs := by unfold subL; simp
/-- What Text answers. -/
def textV (T : Tx) (x y : Int) : ByteArray := if reachB T.S x y = true then encS (subL T.cs x.toNat y.toNat) else ⟨#[]⟩
section
variable {N : Nat} {w w' : World} {b mm : Nat} {F F' Fg Fl : Nat → Prop} {pr ev : Int} {T T' : Tx} {co nw co' nw' : Int} {B B' : Nat}
theorem PB.gap (h : PB N w b F T B) : ∃ g, GapR w T.S.t g T.cs := by obtain ⟨Fg, Fl, mm, pr, ev, co, nw, hx, hd⟩ := h; exact hx.gap.r
theorem PB.gap2 (h : PB N w b F T B) : ∃ g, GapR w T.S.t g T.cs ∧ b ≠ T.S.t ∧ b ≠ g := by
  obtain ⟨Fg, Fl, mm, pr, ev, co, nw, hx, hd⟩ := h
  obtain ⟨g', fv, Bf, st, en, hgx, hf⟩ := hx.gap
  exact ⟨g', hgx.r, fun e => hx.fg.1 (e ▸ hf _ (.inl rfl)), fun e => hx.fg.1 (e ▸ hf _ (.inr (.inl rfl)))⟩
set_option maxRecDepth 100000 in
set_option maxHeartbeats 2000000 in
theorem pText (h : PB N w b F T B) (x y : Int) : Calls Tryz.prog 53 #[pAt b, .int .i64 x, .int .i64 y] w fun r w' => r = .returned (.tuple #[.string (textV T x y), .int .i64 (delE T x y)]) ∧ Below w.heap.size w w' := by
  have HM := Lib.hid (ChkAt.made h.blk)
  have HV := Lib.hid (within_ok h.blk x y)
  obtain ⟨E, hE⟩ : ∃ E : Int, E = if reachB T.S x y = true then 0 else 3 := ⟨_, rfl⟩
  rw [← hE] at HV
  have hE' : delE T x y = E := hE.symm
  rw [hE']
  obtain ⟨V, hV⟩ : ∃ V, V = textV T x y := ⟨_, rfl⟩
  rw [← hV]
  have HS := Lib.hid h.sane
  have H := Lib.hid h
  have HE := Lib.hid hE
  have HVV := Lib.hid hV
  clear h hE hE' hV
  go_enter Tryz.func53, Tryz.ntmps53
  go_wp2_with fail
  refine HV.out.mono ?_
  rintro r w1 ⟨k1, k2, rfl, hb1, hc⟩
  have C1 := Lib.hid hc
  have B1 := Lib.hid hb1
  have M1 := Lib.hid (HM.out.up hb1)
  clear hc hb1 HV HM
  go_wp2_with fail
  have hb4 := below1 w1 (.cells #[(madeC b).val, (unlC k1 k2 E).val] 69)
  have hR3 := RSl.arr (enc := encK) (zs := [madeC b, unlC k1 k2 E]) (MapKept.heap_alloc w1 (.cells #[(madeC b).val, (unlC k1 k2 E).val] 69)).1 rfl
  have HF := first_any hR3 2 (by simp) (by
    intro c hc
    simp only [List.mem_cons, List.not_mem_nil, or_false] at hc
    rcases hc with rfl | rfl
    · exact M1.out.en
    · exact C1.out.en) (by
    intro i c w4 hi hz hb
    rcases i with _ | _ | i
    · cases hi; exact M1.out.run trivial w4 (up2 hb4 hb)
    · cases hi; exact C1.out.run trivial w4 (up2 hb4 hb)
    · simp at hi)
  have B2 := Lib.hid (up2 B1.out hb4)
  have hfe : firstE [madeC b, unlC k1 k2 E] = E := by rw [firstE2]; rfl
  rw [hfe] at HF
  have HF := Lib.hid HF
  clear hR3 hb4 M1 C1 B1 hfe
  refine HF.out.mono ?_
  rintro e w5 ⟨rfl, hb5⟩
  have B5 := Lib.hid (up2 B2.out hb5)
  clear hb5 B2 HF
  by_cases hq : reachB T.S x y = true
  · have hE := HE.out
    rw [if_pos hq] at hE
    have hv := HVV.out
    unfold textV at hv
    rw [if_pos hq] at hv
    have hq' := reach_iff.1 hq
    have g1 := HS.out.l1
    have g4 := HS.out.hn
    have P5 := Lib.hid (H.out.up B5.out)
    obtain ⟨g, hg⟩ := P5.out.gap
    obtain ⟨n, rfl⟩ : ∃ n : Nat, x = n := ⟨x.toNat, by omega⟩
    obtain ⟨m, rfl⟩ : ∃ m : Nat, y = m := ⟨y.toNat, by omega⟩
    simp only [Int.toNat_natCast] at hv
    have HSL := Lib.hid (gslice_ok hg n m (by omega) (by omega) (by omega))
    have q9 : w5.cell? ⟨b, 9, none⟩ = some (pAt T.S.t) := P5.out.blk.cell (j := 9) rfl
    rw [← hv] at HSL
    have HE0 := Lib.hid hE
    clear hq hq' g1 g4 hg hv
    rw [hE]
    clear hE
    generalize T.S.t = t at *
    go_wp2_with fail
    refine HSL.out.mono ?_
    rintro e w6 ⟨rfl, hb6⟩
    go_wp2_with fail
    go_ret2
    exact ⟨by rw [HE0.out]; rfl, up2 B5.out hb6⟩
  · have hE := HE.out
    rw [if_neg hq] at hE
    have hv := HVV.out
    unfold textV at hv
    rw [if_neg hq] at hv
    have HE0 := Lib.hid hE
    have HV0 := Lib.hid hv
    clear hq
    rw [hE]
    clear hE hv
    go_wp2_with fail
    go_ret2
    exact ⟨by rw [HE0.out, HV0.out]; rfl, B5.out⟩
theorem gAll {g t : Nat} {cs : List Nat} (h : GapR w t g cs) : Calls Tryz.prog 72 #[pAt t] w fun r w' => r = .returned (.string (encS cs)) ∧ Below w.heap.size w w' := by
  have hl := h.len
  have H := Lib.hid h
  have HS := Lib.hid (gsize h)
  have s1 : IntKind.i64.wrap ((cs.length : Int) + 1) = ((cs.length + 1 : Nat) : Int) := by rw [IntWalk.i64_in _ (by omega)]; omega
  clear h
  go_enter Tryz.func72, Tryz.ntmps72
  go_wp2_with fail
  refine HS.out.mono ?_
  rintro e w1 ⟨rfl, hb1⟩
  have HB := Lib.hid hb1
  have HSL := Lib.hid (gslice_ok (H.out.up hb1) 1 (cs.length + 1) (by omega) (by omega) (by omega))
  rw [subL_all] at HSL
  clear hb1
  go_wp2_with fail
  refine HSL.out.mono ?_
  rintro e w2 ⟨rfl, hb2⟩
  go_wp2_with fail
  go_ret
  exact ⟨rfl, up2 HB.out hb2⟩
theorem pAll (h : PB N w b F T B) : Calls Tryz.prog 17 #[pAt b] w fun r w' => r = .returned (.string (encS T.cs)) ∧ Below w.heap.size w w' := by
  obtain ⟨g, hg⟩ := h.gap
  have HN := Lib.hid (bnoneB h.blk)
  have q9 : w.cell? ⟨b, 9, none⟩ = some (pAt T.S.t) := h.blk.cell (j := 9) rfl
  have HA := Lib.hid (gAll hg)
  clear h hg
  generalize T.S.t = t at *
  go_enter Tryz.func17, Tryz.ntmps17
  go_wp2_with fail
  refine HN.out.mono ?_
  rintro e w1 ⟨rfl, rfl⟩
  go_wp2_with fail
  refine HA.out.mono ?_
  rintro e w1 ⟨rfl, hb⟩
  go_wp2_with fail
  go_ret
  exact ⟨rfl, hb⟩
theorem pNarrow (h : PB N w b F T B) (x y : Nat) (h1 : 1 ≤ x) (h2 : x ≤ y) (h3 : y ≤ T.cs.length + 1) : Calls Tryz.prog 79 #[pAt b, .int .i64 x, .int .i64 y] w fun r w' => r = .returned (.int .i64 0) ∧ Only F w w' ∧ PB N w' b F { T with S := { T.S with lo := x, hi := y, pt := min (max T.S.pt x) y } } B := by
  obtain ⟨g, hg, hbt, hbg⟩ := h.gap2
  have hs := h.sane
  refine (Narrow_ok ⟨h.blk, hg, hbt, hbg, hs.l1, hs.lp, hs.ph, hs.hn⟩ x y h1 h2 h3).mono ?_
  rintro r w' ⟨rfl, ho, hk⟩
  obtain ⟨o1, p1⟩ := h.turn ho hk.blk ⟨rfl, rfl, rfl, rfl, rfl, rfl⟩ ⟨hk.h1, hk.h2, hk.h3, hk.h4, hs.ma⟩ h.tick h.logs
  exact ⟨rfl, o1, p1⟩
end
end Go.Proofs.YtcfdalmllegefaaGreatDoor
/- package column: SetIndent at a plain buffer. -/
namespace Go.Proofs.YtcfdalmllegefaaGreatDoor
open Go.RowKit Go.Lib
set_option linter.unusedVariables false
set_option linter.unusedSimpArgs false
/-- The characters of an indentation. -/
def indC (col tab : Nat) (tabs : Bool) : List Nat := List.replicate (tabsN col tab tabs) 9 ++ List.replicate (col - tabsN col tab tabs * tab) 32
theorem encS_ascii (c n : Nat) (hc : c < 128) : encS (List.replicate n c) = repB (UInt8.ofNat c) n := by
  have hN : isN c := by unfold isN; omega
  refine bytes_ext ?_
  rw [encS_list]
  unfold encL repB
  induction n with
  | zero => simp
  | succ n ih =>
    rw [List.replicate_succ, List.flatMap_cons, ih, enc1 hN hc]
    simp [List.replicate_succ]
theorem encS_indC (col tab : Nat) (tabs : Bool) : encS (indC col tab tabs) = indT col tab tabs := by
  unfold indC indT
  rw [← encS_append, encS_ascii 9 _ (by omega), encS_ascii 32 _ (by omega)]; rfl
theorem indC_isN (col tab : Nat) (tabs : Bool) : ∀ c ∈ indC col tab tabs, isN c := fun c hc => by
  unfold indC at hc
  simp only [List.mem_append, List.mem_replicate] at hc
  unfold isN
  rcases hc with ⟨_, rfl⟩ | ⟨_, rfl⟩ <;> omega
theorem chrs_indT (col tab : Nat) (tabs : Bool) : chrs (indT col tab tabs) = indC col tab tabs ∧ (charsD (indT col tab tabs).data.toList).isSome = true := by
  rw [← encS_indC]; exact chrs_encS (indC_isN _ _ _)
theorem tabsN_mul (col tab : Nat) (tabs : Bool) : tabsN col tab tabs * tab ≤ col := by
  unfold tabsN
  split
  · exact Nat.div_mul_le_self _ _
  · omega
theorem tabsN_le (col tab : Nat) (tabs : Bool) : tabsN col tab tabs ≤ col := by
  unfold tabsN
  split
  · exact Nat.div_le_self _ _
  · omega
theorem indC_len (col tab : Nat) (tabs : Bool) : (indC col tab tabs).length ≤ 2 * col := by
  have := tabsN_le col tab tabs
  unfold indC; simp; omega
theorem indT_size (col tab : Nat) (tabs : Bool) : (indT col tab tabs).size ≤ 2 * col := by
  have := tabsN_le col tab tabs
  unfold indT; rw [ByteArray.size_append, repB_size, repB_size]; omega
/-- Where the indentation of a line lies. -/
def indA (T : Tx) (k : Nat) : Nat := lineB T.cs T.S.lo k
def indZ (T : Tx) (k : Nat) : Nat := indN T.cs (lineB T.cs T.S.lo k) (lineE T.cs T.S.hi k)
/-- Behind SetIndent. -/
def sindT (T : Tx) (k col tab : Nat) (tabs : Bool) : Tx := if encS (subL T.cs (indA T k) (indZ T k)) = indT col tab tabs then T else repT T (indA T k) (indZ T k) (indC col tab tabs)
theorem str_ne1 {x y : ByteArray} (h : ¬ x = y) : (x.toList == y.toList) = false := by
  have e : x.toList ≠ y.toList := fun e => h (bytes_ext (by rw [← ByteArray.toList_eq, ← ByteArray.toList_eq]; exact e))
  exact beq_eq_false_iff_ne.2 e
section
variable {N : Nat} {w w' : World} {b : Nat} {F : Nat → Prop} {T : Tx} {B : Nat}
theorem ind_rel {k : Nat} (hs : Sane T.S T.cs.length) (h2 : T.S.lo ≤ k) (h3 : k ≤ T.S.hi) : T.S.lo ≤ indA T k ∧ indA T k ≤ indZ T k ∧ indZ T k ≤ T.S.hi ∧ indA T k ≤ k := by
  have hB2 : lineB T.cs T.S.lo k ≤ k := lineB_le k h2
  have hB1 : T.S.lo ≤ lineB T.cs T.S.lo k := lineB_ge k
  have hE1 : k ≤ lineE T.cs T.S.hi k := lineE_ge k
  have hE2 : lineE T.cs T.S.hi k ≤ T.S.hi := lineE_le k h3
  have hq := indN_is T.cs (b := lineB T.cs T.S.lo k) (e := lineE T.cs T.S.hi k) (by omega)
  unfold indA indZ
  omega
set_option maxRecDepth 100000 in
set_option maxHeartbeats 4000000 in
theorem SetIndent_ok (hT : Tabs N w) (hR : Rules N w) (h : PB N w b F T B) (hF : edF N F) (hB : B ≤ 600000) (hro : T.S.ro = false) (hlen : T.cs.length ≤ 60000) (k col tab : Nat) (tabs : Bool) (hc : col ≤ 1000) (ht1 : 1 ≤ tab) (ht2 : tab ≤ 64) (h2 : T.S.lo ≤ k) (h3 : k ≤ T.S.hi) :
    Calls Tryz.prog 10 #[pAt b, .int .i64 k, .int .i64 col, .int .i64 tab, .bool tabs] w fun r w' => r = .returned (.int .i64 0) ∧ Only F w w' ∧ PB N w' b (grow F w.heap.size) (sindT T k col tab tabs) (B + T.cs.length + 8) := by
  have hrel := ind_rel h.sane h2 h3
  have hsn := h.sane
  obtain ⟨s, hs⟩ : ∃ s, s = indT col tab tabs := ⟨_, rfl⟩
  obtain ⟨x, hx⟩ : ∃ x, x = indA T k := ⟨_, rfl⟩
  obtain ⟨y, hy⟩ : ∃ y, y = indZ T k := ⟨_, rfl⟩
  rw [← hx, ← hy] at hrel
  have HIT := Lib.hid (fun w => (hs ▸ itext_ok col tab tabs hc ht1 ht2 w : Calls Tryz.prog 12 #[.int .i64 col, .int .i64 tab, .bool tabs] w fun e w' => e = .returned (.tuple #[.string s, .int .i64 0]) ∧ Below w.heap.size w w'))
  have hsz : s.size ≤ 2000 := by rw [hs]; have := indT_size col tab tabs; omega
  have hch : chrs s = indC col tab tabs := by rw [hs]; exact (chrs_indT _ _ _).1
  have hvl : (charsD s.data.toList).isSome = true := by rw [hs]; exact (chrs_indT _ _ _).2
  have hcl := chrs_len s
  have hreach : reachB T.S (x : Int) (y : Int) = true := reach_iff.2 (by omega)
  have hrep : repE T (x : Int) (y : Int) s = 0 := by
    unfold repE
    rw [if_pos hreach]
    unfold fitsE
    rw [vld_chars, if_pos hvl, rlenG_chars hvl, if_neg (by omega)]
  have htv : textV T (x : Int) (y : Int) = encS (subL T.cs x y) := by unfold textV; rw [if_pos hreach]; rfl
  have hde : delE T (x : Int) (y : Int) = 0 := by unfold delE; rw [if_pos hreach]
  obtain ⟨wa, hwa⟩ : ∃ wa, wa = encS (subL T.cs x y) := ⟨_, rfl⟩
  obtain ⟨T2, hT2⟩ : ∃ T2, T2 = sindT T k col tab tabs := ⟨_, rfl⟩
  rw [← hT2]
  have H := Lib.hid h
  have HT := Lib.hid hT
  have HR := Lib.hid hR
  have HH := Lib.hid (⟨hF, hB, hro, hsz, h2, h3⟩ : _ ∧ _ ∧ _ ∧ _ ∧ _ ∧ _)
  have HV := Lib.hid (⟨hx, hy, hs, hwa, hT2, hch⟩ : _ ∧ _ ∧ _ ∧ _ ∧ _ ∧ _)
  have HE := Lib.hid (⟨hrep, htv, hde⟩ : _ ∧ _ ∧ _)
  have hlo := hsn.l1
  have Hlo := Lib.hid hlo
  clear hT hR h hF hB hro hlen hc ht1 ht2 hrel hsn hs hx hy hsz hch hvl hcl hreach hrep htv hde hwa hT2 hlo h2 h3
  go_enter Tryz.func10, Tryz.ntmps10
  go_wp2_with fail
  refine (HIT.out _).mono ?_
  rintro e w1 ⟨rfl, hb1⟩
  have B1 := Lib.hid hb1
  clear hb1 HIT
  go_wp2_with fail
  have HB0 := below1 w1 (.cells #[.int .i64 k] 3)
  have hcx := (MapKept.heap_alloc w1 (.cells #[.int .i64 k] 3)).1
  have hlk := look_ok ((H.out.up (up2 B1.out HB0)).r) tab k w1.heap.size 1 (by simp only [World.cell?, hcx]; rfl) HH.out.2.2.2.2.1 HH.out.2.2.2.2.2
  have HLK := Lib.hid hlk
  have B2 := Lib.hid (up2 B1.out HB0)
  clear hcx hlk HB0
  generalize w1.alloc (.cells #[.int .i64 k] 3) = W at *
  refine HLK.out.mono ?_
  rintro e w2 ⟨rfl, hb2⟩
  have B3 := Lib.hid (up2 B2.out hb2)
  clear hb2 HLK B2 B1
  go_wp2_with fail
  have HB4 := below1 w2 (.cells #[.pointer (some ⟨b, 0, none⟩), .int .i64 T.S.lo, .int .i64 T.S.hi, .int .i64 tab] 71)
  have hv := VwI.made w2 b T.S.lo T.S.hi tab (T := 71)
  have B4 := Lib.hid (up2 B3.out HB4)
  have HVW := Lib.hid hv
  clear HB4 hv B3
  generalize w2.alloc (.cells #[.pointer (some ⟨b, 0, none⟩), .int .i64 T.S.lo, .int .i64 T.S.hi, .int .i64 tab] 71) = W2 at *
  have X0 : ∀ X : UpW W2.heap.size W2, X.w.cell? ⟨w2.heap.size, 0, none⟩ = some (.pointer (some ⟨b, 0, none⟩)) := fun X => (HVW.out.up X.up).c0
  have X1 : ∀ X : UpW W2.heap.size W2, X.w.cell? ⟨w2.heap.size, 1, none⟩ = some (.int .i64 T.S.lo) := fun X => (HVW.out.up X.up).c1
  have X2 : ∀ X : UpW W2.heap.size W2, X.w.cell? ⟨w2.heap.size, 2, none⟩ = some (.int .i64 T.S.hi) := fun X => (HVW.out.up X.up).c2
  have X3 : ∀ X : UpW W2.heap.size W2, X.w.cell? ⟨w2.heap.size, 3, none⟩ = some (.int .i64 tab) := fun X => (HVW.out.up X.up).c3
  have HBG := Lib.hid (fun (V : World) (hb : Below W2.heap.size W2 V) => vbegin ((H.out.up B4.out).up hb).r tab k Hlo.out HH.out.2.2.2.2.1 HH.out.2.2.2.2.2)
  have HIN := Lib.hid (fun (V : World) (hb : Below W2.heap.size W2 V) => vindent ((H.out.up B4.out).up hb).r tab k HH.out.2.2.2.2.1 HH.out.2.2.2.2.2)
  rw [show lineB T.cs T.S.lo k = x from HV.out.1.symm] at HBG
  rw [show indN T.cs (lineB T.cs T.S.lo k) (lineE T.cs T.S.hi k) = y from HV.out.2.1.symm] at HIN
  refine wp_region_up W2.heap.size (by kernel_rfl) (by kernel_rfl) ?_
  repeat (go_big_quiet_step (first | exact Calls.up ‹_› (Nat.le_refl _) (HBG.out _ (UpW.up ‹_›)) | exact Calls.up ‹_› (Nat.le_refl _) (HIN.out _ (UpW.up ‹_›))))
  refine wpQuiet_nil ?_
  rintro ⟨w3, hb3⟩
  dsimp only
  have B5 := Lib.hid (up2 B4.out hb3)
  clear X0 X1 X2 X3 HBG HIN hb3 HVW B4
  go_wp2_with fail
  have hpt := pText (H.out.up B5.out) (x : Int) (y : Int)
  rw [HE.out.2.1, HE.out.2.2, ← HV.out.2.2.2.1] at hpt
  refine hpt.mono ?_
  rintro e w4 ⟨rfl, hb4⟩
  have B6 := Lib.hid (up2 B5.out hb4)
  clear hb4 hpt B5
  by_cases heq : wa = s
  · have HQ := Lib.hid heq
    subst heq
    have e0 : (wa.toList == wa.toList) = true := by simp
    go_wp2_with fail
    go_ret
    refine ⟨rfl, ?_⟩
    have e2 : T2 = T := by
      rw [HV.out.2.2.2.2.1]; unfold sindT
      rw [if_pos (by rw [← HV.out.1, ← HV.out.2.1, ← HV.out.2.2.1, ← HV.out.2.2.2.1])]
    rw [e2]
    exact H.out.stay B6.out (T.cs.length + 8)
  · have e0 := str_ne1 heq
    have e1 := str_ne1 (fun q => heq q.symm)
    have HQ := Lib.hid heq
    have hbr := bReplace (HT.out.up B6.out) (HR.out.up B6.out) (H.out.up B6.out) HH.out.1 (by have := HH.out.2.1; omega) HH.out.2.2.1 (x : Int) (y : Int) s (by have := HH.out.2.2.2.1; omega)
    rw [HE.out.1, if_pos rfl, Int.toNat_natCast, Int.toNat_natCast, HV.out.2.2.2.2.2] at hbr
    have HBR := Lib.hid hbr
    clear hbr heq
    go_wp2_with fail
    refine HBR.out.mono ?_
    rintro e w5 ⟨rfl, h5⟩
    have H5 := Lib.hid (PB.then (T1 := T) (B1 := B) B6.out h5)
    clear h5
    go_wp2_with fail
    go_ret
    refine ⟨rfl, ?_⟩
    have e2 : T2 = repT T x y (indC col tab tabs) := by
      rw [HV.out.2.2.2.2.1]; unfold sindT
      rw [if_neg (by rw [← HV.out.1, ← HV.out.2.1, ← HV.out.2.2.1, ← HV.out.2.2.2.1]; exact HQ.out), ← HV.out.1, ← HV.out.2.1]
    rw [e2]
    exact H5.out
end
end Go.Proofs.YtcfdalmllegefaaGreatDoor
