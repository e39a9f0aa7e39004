import Derived.Test.YtnbccoelbfgmgaaGreatDoorProg
import GoSem.PinnedTables
import GoSem.Claim
import GoSem.ClaimJoined
import GoSem.ClaimMapViews
import Derived.JoinedTies
import Derived.KernelRfl
import Derived.WalkKit
import Derived.WalkSpells
import Derived.WalkLawsBesides
import Derived.Deep.QuietTactic
import Derived.BigQuiet
import Derived.StillTail
import Derived.Lib.Hide
import Derived.OrdersHeld
/- Regions that draw their order, whose operations read old memory and call functions that make new memory: one walk in the order of the text; a tail in one forced order may write. -/
namespace Go.Proofs.YtnbccoelbfgmgaaGreatDoor
open Go.RowKit
set_option linter.unusedVariables false

theorem up2 {w w1 w2 : World} (h : Below w.heap.size w w1) (k : Below w1.heap.size w1 w2) : Below w.heap.size w w2 := h.trans (k.mono h.size)
theorem below1 (w : World) (a : Obj) : Below w.heap.size w (w.alloc a) := (Below.refl _ w).alloc (Nat.le_refl _) _
theorem ret_int {k : IntKind} {a b : Int} (h : a = b) : Ending.returned (.int k a) = .returned (.int k b) := by rw [h]
theorem ret_bool {a b : Bool} (h : a = b) : Ending.returned (.bool a) = .returned (.bool b) := by rw [h]
theorem ret_two {a b : Int} {v : Value} (h : a = b) : Ending.returned (.tuple #[.int .i64 a, v]) = .returned (.tuple #[.int .i64 b, v]) := by rw [h]
theorem lt_of_cell {w : World} {b o : Nat} {v : Value} (h : w.cell? ⟨b, o, none⟩ = some v) : b < w.heap.size := by
  rcases Nat.lt_or_ge b w.heap.size with h' | h'
  · exact h'
  · simp [World.cell?, Array.getElem?_eq_none h'] at h

/-- A world in which whatever lay below N in w0 lies as it lay. -/
structure UpW (N : Nat) (w0 : World) where
  w : World
  up : Below N w0 w
instance UpW.some (N : Nat) (w0 : World) : Nonempty (UpW N w0) := ⟨⟨w0, Below.refl N w0⟩⟩

theorem wp_region_up {P : Program} {id : Nat} {Q : Exit → Act → World → Prop} {a : Act} {w : World} {l : List Oper} (N : Nat) (hm : P.follows .mixedOrders = true) (hB : Region.lexB .any l.toArray = true)
    (h : wpQuiet P l.toArray (fun w' => ∃ x : UpW N w, w' = x.w) (fun a' => ∀ x : UpW N w, Q .normal a' x.w) l a) : (Code.region id l.toArray true).wp P Q a w :=
  wp_region_quiet (C := fun w' => ∃ x : UpW N w, w' = x.w) hm hB ⟨⟨w.drew, (Below.refl N w).drew⟩, rfl⟩ (by
    have e : (fun a' => ∀ w', (∃ x : UpW N w, w' = x.w) → Q .normal a' w') = (fun a' => ∀ x : UpW N w, Q .normal a' x.w) := by
      funext a'; exact propext ⟨fun h x => h _ ⟨x, rfl⟩, fun h w' ⟨x, hx⟩ => hx ▸ h x⟩
    rw [e]; simpa using h)

/-- A callee that makes new memory alone, met in such a world. -/
theorem Calls.up {P : Program} {f : FuncId} {args : Array Value} {N : Nat} {w0 : World} {v : Value} (x : UpW N w0) (hN : N ≤ w0.heap.size) (h : Calls P f args x.w fun e w' => e = .returned v ∧ Below x.w.heap.size x.w w') :
    Calls P f args x.w fun e w'' => e = .returned v ∧ ∃ y : UpW N w0, w'' = y.w :=
  h.mono fun e w' ⟨he, hb⟩ => ⟨he, ⟨w', x.up.trans (hb.mono (Nat.le_trans hN x.up.size))⟩, rfl⟩
theorem Calls.up_same {P : Program} {f : FuncId} {args : Array Value} {N : Nat} {w0 : World} {v : Value} (x : UpW N w0) (h : Calls P f args x.w fun e w' => e = .returned v ∧ x.w = w') :
    Calls P f args x.w fun e w'' => e = .returned v ∧ ∃ y : UpW N w0, w'' = y.w :=
  h.mono fun e w' ⟨he, hb⟩ => ⟨he, x, hb.symm⟩

/-! ### a quiet head, then a tail in one forced order -/
section
variable {P : Program} {ops : Array Oper} {md : Region.Mode} {C : World → Prop}

/-- The first f operations, in whatever order, each among the first n and quiet in C; then L. -/
def headQ (P : Program) (md : Region.Mode) (ops : Array Oper) (C : World → Prop) (n : Nat) (L : Array Bool → Act → Prop) : Nat → Array Bool → Act → Prop
  | 0, listed, a => L listed a
  | f + 1, listed, a => Region.ready md ops listed ≠ [] ∧ ∀ i ∈ Region.ready md ops listed, i < n ∧ qOp P ops C i (headQ P md ops C n L f (listed.setIfInBounds i true)) a

theorem any_of_head {n g : Nat} {L : Array Bool → Act → Prop} {Q : Exit → Act → World → Prop} (hL : ∀ listed a w, C w → L listed a → wpAny P md ops Q g listed a w) :
    ∀ (f : Nat) (listed : Array Bool) (a : Act) (w : World), C w → headQ P md ops C n L f listed a → wpAny P md ops Q (f + g) listed a w
  | 0, listed, a, w, hw, h => by rw [Nat.zero_add]; exact hL _ _ _ hw h
  | f + 1, listed, a, w, hw, h => by
    rw [show f + 1 + g = (f + g) + 1 by omega]
    exact ⟨fun h0 => absurd h0 h.1, fun i hi => wpOp_of_qOp hw (fun a' w' hw' h' => any_of_head hL f _ a' w' hw' h') (h.2 i hi).2⟩

theorem head_first {n i : Nat} {oi : Oper} {v : Value} {L : Array Bool → Act → Prop} (hi : ops[i]? = some oi) (hsel : ∀ (j : Nat) (o : Oper) cs b, ops[j]? = some o → o.op ≠ .select cs b)
    (hs : Region.sinkB md ops n = true) (hc : Region.chainB md ops n = true) (hn : n < ops.size) (hin : i < n) (hdone : ∀ listed a, L listed a → ∀ j ∈ Region.ready md ops listed, n ≤ j) :
    ∀ (f : Nat) (listed : Array Bool) (a : Act), HeadInv md ops n listed →
      (∀ j oj, ops[j]? = some oj → j ≠ i → listed.getD j true = false → (∀ e ∈ oj.after, Region.binds md e = true → e.on ≠ i) → oi.apart ops oj = true) →
      i ∈ Region.ready md ops listed → YieldsIn P ops C oi v a → headQ P md ops C n L f (listed.setIfInBounds i true) (a.put oi.dst v) → headQ P md ops C n L (f + 1) listed a := by
  intro f
  induction f with
  | zero =>
    intro listed a inv _ hr hy H
    have hun := (mem_ready.1 hr).1
    refine ⟨fun h => (by rw [h] at hr; cases hr), fun j hj => ?_⟩
    have hjn : j < n := Nat.lt_of_not_le fun h => tail_waits hs hc hn inv _ i rfl hin hun j h hj
    refine ⟨hjn, ?_⟩
    by_cases hji : j = i
    · subst hji; exact hy.qOp hi H
    · have := hdone _ _ H j (ready_mono hj hji)
      omega
  | succ f ih =>
    intro listed a inv hfree hr hy H
    have hun := (mem_ready.1 hr).1
    refine ⟨fun h => (by rw [h] at hr; cases hr), fun j hj => ?_⟩
    have hjn : j < n := Nat.lt_of_not_le fun h => tail_waits hs hc hn inv _ i rfl hin hun j h hj
    refine ⟨hjn, ?_⟩
    by_cases hji : j = i
    · subst hji; exact hy.qOp hi H
    · have h1 := (H.2 j (ready_mono hj hji)).2
      obtain ⟨hjun, oj, hoj, hall⟩ := mem_ready.1 hj
      have hnot : ∀ e ∈ oj.after, Region.binds md e = true → e.on ≠ i := fun e he hb heq => by
        have h1 := hall e he hb
        rw [heq, getD_both hun] at h1
        cases h1
      have h2 := qOp_put hoj (hfree j oj hoj hji hjun hnot) (fun cs b => hsel i oi cs b hi) (fun cs b => hsel j oj cs b hoj) hy h1
      refine qOp_mono (fun a' h3 => ih (listed.setIfInBounds j true) a' (inv.set hj hjn) (fun k ok hk hki hun' hno => hfree k ok hk hki ?_ hno) (ready_mono hr (Ne.symm hji)) h3.1 ?_) h2
      · by_cases hjk : j = k
        · subst hjk; exact hjun
        · rw [getD_set_ne true hjk] at hun'; exact hun'
      · rw [Array.setIfInBounds_comm _ _ hji]
        exact h3.2

theorem head_lex {n g : Nat} {Lq : Act → Prop} (hsel : Region.noSelect ops = true) (hs : Region.sinkB md ops n = true) (hc : Region.chainB md ops n = true) (hn : n < ops.size) :
    ∀ (l : List Oper) (k : Nat) (listed : Array Bool) (a : Act), (∀ j, j < l.length → l[j]? = ops[k + j]?) → k + l.length = n → HeadInv md ops n listed →
    Region.lexHead md ops g l.length k listed = true → wpQuiet P ops C Lq l a → headQ P md ops C n (fun listed' a' => Region.seqB md ops g n listed' = true ∧ Lq a') l.length listed a
  | [], k, listed, a, _, hk, _, hB, h => by
    obtain rfl : k = n := by simpa using hk
    exact ⟨by simpa [Region.lexHead] using hB, h⟩
  | o :: l, k, listed, a, hl, hk, inv, hB, h => by
    have h0 : ops[k]? = some o := by simpa using (hl 0 (by simp)).symm
    simp only [List.length_cons, Region.lexHead, Bool.and_eq_true] at hB
    obtain ⟨⟨hr, hf⟩, hB'⟩ := hB
    have hkn : k < n := by simp only [List.length_cons] at hk; omega
    have hr' : k ∈ Region.ready md ops listed := by simpa using hr
    have hst : qOp P ops C k (wpQuiet P ops C Lq l) a := by unfold qOp; simp only [h0]; exact h
    obtain ⟨v, hy, hK⟩ := yieldsIn_of_qOp h0 hst
    exact head_first h0 (Region.noSelect_spec hsel) hs hc hn hkn (fun listed' a' hL => seqB_ready hL.1) l.length listed a inv (Region.free_spec h0 hf) hr' hy
      (head_lex hsel hs hc hn l (k + 1) _ _ (fun j hj => by have := hl (j + 1) (by simp; omega); simpa [Nat.add_assoc, Nat.add_comm 1 j] using this) (by simp only [List.length_cons] at hk; omega) (inv.set hr' hkn) hB' hK)
end

/-- n operations quiet in 'memory below N is as it was', in whatever order; then the others, in the one order that is left to them. -/
theorem wp_region_up_tail {P : Program} {id : Nat} {Q : Exit → Act → World → Prop} {a : Act} {w : World} {l : List Oper} (N n : Nat) (hm : P.follows .mixedOrders = true) (hB : Region.lexTailB .any l.toArray n = true)
    (h : wpQuiet P l.toArray (fun w' => ∃ x : UpW N w, w' = x.w) (fun a' => ∀ x : UpW N w, wpList P l.toArray Q (l.drop n) a' x.w) (l.take n) a) : (Code.region id l.toArray true).wp P Q a w := by
  simp only [Region.lexTailB, Bool.and_eq_true, decide_eq_true_eq] at hB
  obtain ⟨⟨⟨⟨hsel, hn⟩, hs⟩, hc⟩, hlex⟩ := hB
  have hn' : n < l.length := by simpa using hn
  have htl : (l.take n).length = n := by simp; omega
  have hdl : (l.drop n).length = l.toArray.size - n := by simp
  have inv0 : HeadInv .any l.toArray n (Array.replicate l.toArray.size false) :=
    ⟨by simp, fun j oj _ hl => (by rw [getD_replicate_false] at hl; cases hl), fun t _ ht => getD_in (by simpa using ht) (getD_replicate_false _ _)⟩
  have H := head_lex (md := .any) (g := l.toArray.size - n) hsel hs hc hn (l.take n) 0 _ a (fun j hj => by
    have hj' : j < n := by rw [htl] at hj; exact hj
    simp [hj']) (by simpa using htl) inv0 (by rw [htl]; exact hlex) h
  refine wp_region_any hm ?_
  have := any_of_head (Q := Q) (g := l.toArray.size - n) (fun listed a' w' hw hL => by
    obtain ⟨x, rfl⟩ := hw
    have := wpAny_of_seq (md := .any) (Q' := Q) (l.drop n) n listed a' x.w (fun j => by simp [List.getElem?_drop]) (by rw [hdl]; exact hL.1) (hL.2 x)
    rwa [hdl] at this) _ _ _ _ ⟨⟨w.drew, (Below.refl N w).drew⟩, rfl⟩ H
  rw [htl, show n + (l.toArray.size - n) = l.toArray.size by omega] at this
  exact this

/-- Nothing that was there has turned, but for the blocks in S. -/
structure Only (S : Nat → Prop) (w w' : World) : Prop where
  os : w'.os = w.os
  tape : w'.tape = w.tape
  output : w'.output = w.output
  size : w.heap.size ≤ w'.heap.size
  block : ∀ k, k < w.heap.size → ¬ S k → w'.heap[k]? = w.heap[k]?
theorem Only.refl (S : Nat → Prop) (w : World) : Only S w w := ⟨rfl, rfl, rfl, Nat.le_refl _, fun _ _ _ => rfl⟩
theorem Only.trans {S : Nat → Prop} {a b c : World} (h : Only S a b) (k : Only S b c) : Only S a c :=
  ⟨k.os.trans h.os, k.tape.trans h.tape, k.output.trans h.output, Nat.le_trans h.size k.size, fun i hi hs => (k.block i (Nat.lt_of_lt_of_le hi h.size) hs).trans (h.block i hi hs)⟩
theorem Only.mono {S T : Nat → Prop} {a b : World} (h : Only S a b) (hs : ∀ k, S k → T k) : Only T a b := ⟨h.os, h.tape, h.output, h.size, fun i hi ht => h.block i hi (fun e => ht (hs i e))⟩
theorem Only.of_below {S : Nat → Prop} {a b : World} (h : Below a.heap.size a b) : Only S a b := ⟨h.os, h.tape, h.output, h.size, fun i hi _ => h.block i hi⟩
theorem Only.of_grown {S : Nat → Prop} {a b : World} {r : Nat} (h : a.grownBy b (some r)) (hr : S r) : Only S a b := ⟨h.os, h.tape, h.output, h.size, fun i hi hs => h.block i hi (fun e => hs (by cases e; exact hr))⟩
theorem Only.setCell {S : Nat → Prop} {a b : World} (h : Only S a b) {p : Addr} (hp : S p.block) (u : Value) : Only S a (b.setCell p u) :=
  h.trans ⟨rfl, rfl, rfl, by simp [World.setCell], fun k _ hk => Below.heap_setCell _ _ _ _ (fun e => hk (e ▸ hp))⟩
theorem Only.alloc {S : Nat → Prop} {a b : World} (h : Only S a b) (o : Obj) : Only S a (b.alloc o) := h.trans (.of_below (below1 b o))
theorem Only.drew {S : Nat → Prop} {a b : World} (h : Only S a b) : Only S a b.drew := ⟨h.os, h.tape, h.output, h.size, h.block⟩
/-- What holds of new blocks too: S may grow by blocks that are new since a. -/
theorem Only.then {S T : Nat → Prop} {a b c : World} (h : Only S a b) (k : Only T b c) (ht : ∀ i, T i → i < a.heap.size → S i) : Only S a c :=
  ⟨k.os.trans h.os, k.tape.trans h.tape, k.output.trans h.output, Nat.le_trans h.size k.size, fun i hi hs => (k.block i (Nat.lt_of_lt_of_le hi h.size) (fun e => hs (ht i e hi))).trans (h.block i hi hs)⟩
theorem Only.below {S : Nat → Prop} {a b : World} (h : Only S a b) {B : Nat} (hB : B ≤ a.heap.size) (hs : ∀ k, S k → B ≤ k) : Below B a b :=
  ⟨h.os, h.tape, h.output, h.size, fun i hi => h.block i (Nat.lt_of_lt_of_le hi hB) (fun e => by have := hs i e; omega)⟩
theorem Only.of_up {S : Nat → Prop} {N : Nat} {a b : World} (h : Below N a b) (hN : a.heap.size ≤ N) : Only S a b := ⟨h.os, h.tape, h.output, h.size, fun i hi _ => h.block i (by omega)⟩
end Go.Proofs.YtnbccoelbfgmgaaGreatDoor
/- A region that draws its order and holds calls that make memory and hand back what hangs on the world: pure operations are taken first, each other operation comes up alone; a tail in one forced order. -/
namespace Go.Proofs.YtnbccoelbfgmgaaGreatDoor
open Go.RowKit
set_option linter.unusedVariables false

/-- An operation that yields a value and leaves the world. -/
def pureOp (o : Oper) : Bool := match o.op with
  | .move _ | .assign _ | .pick _ _ _ | .build _ _ | .load _ _ | .nilCheck _ | .binOp _ _ _ _ _ | .unOp _ _ _ | .convert _ _ _ | .slice _ _ _ _ _ | .fieldAddr _ _ _ | .field _ _ _ | .indexAddr _ _ _ | .index _ _ _ | .lookup _ _ _ _ | .extract _ _ => true
  | .call c => match c.callee with
    | .builtin .len => true
    | .builtin .cap => true
    | _ => false
  | _ => false

def ValOnly (s : Sem Next) : Prop := ∀ P w nx w', s.run P w = .ok nx w' → ∃ u, nx = .value u
theorem ValOnly.pure (u : Value) : ValOnly (Pure.pure (Next.value u) : Sem Next) := fun P w nx w' h => by
  simp only [Sem.run_pure] at h; cases h; exact ⟨u, rfl⟩
theorem ValOnly.bind {α : Type} (s : Sem α) (f : α → Sem Next) (h : ∀ x, ValOnly (f x)) : ValOnly (s >>= f) := fun P w nx w' hr => by
  simp only [Sem.run_bind] at hr
  cases hs : s.run P w with
  | ok u w1 => rw [hs] at hr; simp only [Result.andThen_ok] at hr; exact h u _ _ _ _ hr
  | halt x w1 => rw [hs] at hr; simp [Result.andThen] at hr
theorem val_panic : ValOnly (runtimePanic .nilDeref : Sem Next) := by
  unfold runtimePanic
  refine ValOnly.bind _ _ fun p => ?_
  intro P w nx w' h
  simp [goPanic] at h
theorem pure_val {P : Program} {w w' : World} {ρ : Operand → Value} {o : Oper} {nx : Next} (hp : pureOp o = true) (h : (execOp ρ o).run P w = .ok nx w') : ∃ u, nx = .value u := by
  suffices H : ValOnly (execOp ρ o) from H _ _ _ _ h
  clear h
  unfold pureOp at hp
  unfold execOp
  cases ho : o.op <;> simp only [] <;> first
    | exact ValOnly.bind _ _ fun _ => ValOnly.pure _
    | exact ValOnly.pure _
    | (exfalso; rw [ho] at hp; simp at hp; done)
    | skip
  case nilCheck x =>
    split <;> first
      | exact val_panic
      | exact ValOnly.pure _
      | skip
    split <;> first
      | exact val_panic
      | exact ValOnly.pure _
      | skip
    refine ValOnly.bind _ _ fun _ => ValOnly.bind _ _ fun _ => ?_
    split
    · exact ValOnly.bind _ _ fun _ => ValOnly.pure _
    · exact ValOnly.pure _
  case call c =>
    rw [ho] at hp
    simp only at hp
    cases hc : c.callee <;> rw [hc] at hp <;> (try (simp at hp; done))
    rename_i b
    intro P w nx w' h
    cases b <;> (try (simp at hp; done)) <;> simp only [resolve, hc, Sem.run_bind, Sem.run_pure, Result.andThen_ok, invoke, builtin] at h <;> exact ValOnly.bind _ _ (fun _ => ValOnly.pure _) P w nx w' (by simpa only [Sem.run_bind, Sem.run_pure] using h)

section
variable {P : Program} {ops : Array Oper} {md : Region.Mode} {S : World → Prop} {Q : Exit → Act → World → Prop}

theorem yieldsIf_of_in {o : Oper} {v : Value} {a : Act} (hp : pureOp o = true) (h : YieldsIn P ops S o v a) : YieldsIf P ops S o v a := by
  rcases h with ⟨hw, h⟩ | h
  · refine .inl ⟨hw, fun w hS => ?_⟩
    have h1 := h w hS
    unfold Oper.quietAt at h1
    cases hr : (execOp a.eval o).run P w with
    | halt x w' => rw [hr] at h1; simp [Oper.quietUpon] at h1
    | ok nx w' =>
      rw [hr] at h1
      obtain ⟨u, rfl⟩ := pure_val hp hr
      simp only [Oper.quietUpon] at h1
      obtain ⟨rfl, rfl⟩ := h1
      rfl
  · exact .inr h

/-- The first f operations, in whatever order, each among the first n; S holds behind each; then L. -/
def headM (P : Program) (md : Region.Mode) (ops : Array Oper) (S : World → Prop) (Q : Exit → Act → World → Prop) (n : Nat) (L : Array Bool → Act → World → Prop) : Nat → Array Bool → Act → World → Prop
  | 0, listed, a, w => L listed a w
  | f + 1, listed, a, w => Region.ready md ops listed ≠ [] ∧ ∀ i ∈ Region.ready md ops listed, i < n ∧ wpOp P ops Q i (fun a' w' => S w' ∧ headM P md ops S Q n L f (listed.setIfInBounds i true) a' w') a w

theorem any_of_headM {n g : Nat} {L : Array Bool → Act → World → Prop} (hL : ∀ listed a w, L listed a w → wpAny P md ops Q g listed a w) :
    ∀ (f : Nat) (listed : Array Bool) (a : Act) (w : World), headM P md ops S Q n L f listed a w → wpAny P md ops Q (f + g) listed a w
  | 0, listed, a, w, h => by rw [Nat.zero_add]; exact hL _ _ _ h
  | f + 1, listed, a, w, h => by
    rw [show f + 1 + g = (f + g) + 1 by omega]
    exact ⟨fun h0 => absurd h0 h.1, fun i hi => wpOp_mono (fun a' w' h' => any_of_headM hL f _ a' w' h'.2) (h.2 i hi).2⟩

theorem headM_first {n i : Nat} {oi : Oper} {v : Value} {L : Array Bool → Act → World → Prop} (hi : ops[i]? = some oi) (hsel : ∀ (j : Nat) (o : Oper) cs b, ops[j]? = some o → o.op ≠ .select cs b)
    (hQ : ∀ c a w, Q (.panic c) (a.put oi.dst v) w → Q (.panic c) a w)
    (htw : ∀ listed, HeadInv md ops n listed → ∀ i, i < n → listed.getD i true = false → ∀ t, n ≤ t → t ∉ Region.ready md ops listed) (hin : i < n) (hdone : ∀ listed a w, L listed a w → ∀ j ∈ Region.ready md ops listed, n ≤ j) :
    ∀ (f : Nat) (listed : Array Bool) (a : Act) (w : World), HeadInv md ops n listed →
      (∀ j oj, ops[j]? = some oj → j ≠ i → listed.getD j true = false → (∀ e ∈ oj.after, Region.binds md e = true → e.on ≠ i) → oi.apart ops oj = true) →
      i ∈ Region.ready md ops listed → YieldsIf P ops S oi v a → S w → headM P md ops S Q n L f (listed.setIfInBounds i true) (a.put oi.dst v) w → headM P md ops S Q n L (f + 1) listed a w := by
  intro f
  induction f with
  | zero =>
    intro listed a w inv _ hr hy hS H
    have hun := (mem_ready.1 hr).1
    refine ⟨fun h => (by rw [h] at hr; cases hr), fun j hj => ?_⟩
    have hjn : j < n := Nat.lt_of_not_le fun h => htw _ inv i hin hun j h hj
    refine ⟨hjn, ?_⟩
    by_cases hji : j = i
    · subst hji; exact hy.wpOp hi hS ⟨hS, H⟩
    · have := hdone _ _ _ H j (ready_mono hj hji)
      omega
  | succ f ih =>
    intro listed a w inv hfree hr hy hS H
    have hun := (mem_ready.1 hr).1
    refine ⟨fun h => (by rw [h] at hr; cases hr), fun j hj => ?_⟩
    have hjn : j < n := Nat.lt_of_not_le fun h => htw _ inv i hin hun j h hj
    refine ⟨hjn, ?_⟩
    by_cases hji : j = i
    · subst hji; exact hy.wpOp hi hS ⟨hS, H⟩
    · have h1 := (H.2 j (ready_mono hj hji)).2
      obtain ⟨hjun, oj, hoj, hall⟩ := mem_ready.1 hj
      have hnot : ∀ e ∈ oj.after, Region.binds md e = true → e.on ≠ i := fun e he hb heq => by
        have h1 := hall e he hb
        rw [heq, getD_both hun] at h1
        cases h1
      have h2 := wpOp_putIf hoj (hfree j oj hoj hji hjun hnot) (fun cs b => hsel i oi cs b hi) (fun cs b => hsel j oj cs b hoj) hQ hy h1
      refine wpOp_mono (fun a' w' h3 => ⟨h3.2.1, ih (listed.setIfInBounds j true) a' w' (inv.set hj hjn) (fun k ok hk hki hun' hno => hfree k ok hk hki ?_ hno) (ready_mono hr (Ne.symm hji)) h3.1 h3.2.1 ?_⟩) h2
      · by_cases hjk : j = k
        · subst hjk; exact hjun
        · rw [getD_set_ne true hjk] at hun'; exact hun'
      · rw [Array.setIfInBounds_comm _ _ hji]
        exact h3.2.2

/-- Q, with K behind the last operation. -/
def thenQ (Q : Exit → Act → World → Prop) (K : Act → World → Prop) : Exit → Act → World → Prop
  | .normal, a, w => K a w
  | e, a, w => Q e a w
theorem thenQ_normal {K : Act → World → Prop} {a : Act} {w : World} (h : K a w) : thenQ Q K .normal a w := h
theorem wpOp_of_list {i : Nat} {o : Oper} {K : Act → World → Prop} {a : Act} {w : World} (hi : ops[i]? = some o) (h : wpList P ops (thenQ Q K) [o] a w) : wpOp P ops Q i K a w := by
  unfold wpOp
  simp only [hi]
  unfold wpList at h
  split
  · rename_i hw
    rw [if_pos hw] at h
    rcases h with h | ⟨h1, h2⟩
    · left
      unfold Oper.wp at *
      generalize (execOp a.eval o).run P w = r at *
      cases r with
      | ok n w' =>
        cases n <;> simp only [Oper.upon] at h ⊢ <;>
          first
            | exact h
            | exact Calls.mono h (fun e w'' he => by cases e <;> exact he)
            | exact Rows.mono h (fun _ _ he => he)
      | halt x w' => cases x <;> simp only [Oper.upon] at h ⊢ <;> exact h
    · exact .inr ⟨h1, h2⟩
  · rename_i hw
    rw [if_neg hw] at h
    exact h

def pushAt : List Oper → Nat → List Oper → List Oper
  | [], _, r => r
  | o :: _, 0, r => o :: r
  | _ :: l, i + 1, r => pushAt l i r
theorem pushAt_zero (o : Oper) (l r : List Oper) : pushAt (o :: l) 0 r = o :: r := rfl
theorem pushAt_succ (o : Oper) (l r : List Oper) (i : Nat) : pushAt (o :: l) (i + 1) r = pushAt l i r := rfl
theorem pushAt_eq {o : Oper} (r : List Oper) : ∀ (l : List Oper) (i : Nat), l[i]? = some o → pushAt l i r = o :: r
  | [], i, h => by simp at h
  | a :: l, 0, h => by simp at h; subst h; rfl
  | a :: l, i + 1, h => pushAt_eq r l i (by simpa using h)
def pk (l : List Oper) : List Nat → List Oper
  | [] => []
  | i :: r => pushAt l i (pk l r)
theorem pk_nil (l : List Oper) : pk l [] = [] := rfl
theorem pk_cons (l : List Oper) (i : Nat) (r : List Nat) : pk l (i :: r) = pushAt l i (pk l r) := rfl
/-- The walk: pure operations, then one other, and so on. -/
def wpMix (P : Program) (l : List Oper) (S : World → Prop) (Q : Exit → Act → World → Prop) (T : Act → World → Prop) : List (List Nat × Nat) → Act → World → Prop
  | [], a, w => T a w
  | (seg, i) :: r, a, w => wpQuiet P l.toArray S (fun a' => wpList P l.toArray (thenQ Q fun a'' w'' => S w'' ∧ wpMix P l S Q T r a'' w'') (pk l [i]) a' w) (pk l seg) a

def segB (md : Region.Mode) (l : List Oper) (n : Nat) : List Nat → Array Bool → Option (Array Bool)
  | [], listed => some listed
  | i :: r, listed => if ((l[i]?).map pureOp).getD false && decide (i < n) && (Region.ready md l.toArray listed).contains i && Region.free md l.toArray listed i then segB md l n r (listed.setIfInBounds i true) else none
def mixB (md : Region.Mode) (l : List Oper) (n : Nat) (last : List Nat) : List (List Nat × Nat) → Array Bool → Bool
  | [], listed => match segB md l n last listed with
    | none => false
    | some l' => Region.seqB md l.toArray (l.length - n) n l'
  | (seg, i) :: r, listed => match segB md l n seg listed with
    | none => false
    | some l' => decide (Region.ready md l.toArray l' = [i]) && decide (i < n) && mixB md l n last r (l'.setIfInBounds i true)
def cntM : List (List Nat × Nat) → Nat
  | [] => 0
  | (seg, _) :: r => seg.length + 1 + cntM r
def mixAll (l : List Oper) (n : Nat) (plan : List (List Nat × Nat)) (last : List Nat) : Bool :=
  Region.noSelect l.toArray && (decide (n = l.length) || (decide (n < l.length) && Region.sinkB .any l.toArray n && Region.chainB .any l.toArray n)) && decide (cntM plan + last.length = n) && mixB .any l n last plan (Array.replicate l.length false)

theorem seg_headM {l : List Oper} {n : Nat} {L : Array Bool → Act → World → Prop} (hsel : Region.noSelect l.toArray = true) (hQ : ∀ c d v a w, Q (.panic c) (Act.put a d v) w → Q (.panic c) a w)
    (htw : ∀ listed, HeadInv md l.toArray n listed → ∀ i, i < n → listed.getD i true = false → ∀ t, n ≤ t → t ∉ Region.ready md l.toArray listed) (hdone : ∀ listed a w, L listed a w → ∀ j ∈ Region.ready md l.toArray listed, n ≤ j) :
    ∀ (seg : List Nat) (listed l' : Array Bool) (f : Nat) (K : Act → Prop) (a : Act) (w : World), HeadInv md l.toArray n listed → segB md l n seg listed = some l' → S w → wpQuiet P l.toArray S K (pk l seg) a →
      (HeadInv md l.toArray n l' → ∀ a', K a' → headM P md l.toArray S Q n L f l' a' w) → headM P md l.toArray S Q n L (seg.length + f) listed a w
  | [], listed, l', f, K, a, w, inv, hB, hS, h, hK => by
    simp only [segB, Option.some.injEq] at hB
    subst hB
    rw [List.length_nil, Nat.zero_add]
    exact hK inv a h
  | i :: seg, listed, l', f, K, a, w, inv, hB, hS, h, hK => by
    unfold segB at hB
    split at hB
    · rename_i hc
      simp only [Bool.and_eq_true, decide_eq_true_eq] at hc
      obtain ⟨⟨⟨hp, hin⟩, hr⟩, hf⟩ := hc
      cases ho : l[i]? with
      | none => rw [ho] at hp; simp at hp
      | some o =>
        rw [ho] at hp
        have hp' : pureOp o = true := by simpa using hp
        have ho' : l.toArray[i]? = some o := by simpa using ho
        have hr' : i ∈ Region.ready md l.toArray listed := by simpa using hr
        have hst : qOp P l.toArray S i (wpQuiet P l.toArray S K (pk l seg)) a := by
          unfold qOp
          simp only [ho']
          have e : pk l (i :: seg) = o :: pk l seg := by rw [pk_cons, pushAt_eq _ _ _ ho]
          rw [e] at h
          exact h
        obtain ⟨v, hy, hk⟩ := yieldsIn_of_qOp ho' hst
        rw [List.length_cons, show seg.length + 1 + f = (seg.length + f) + 1 by omega]
        exact headM_first ho' (Region.noSelect_spec hsel) (fun c a w h => hQ c _ _ a w h) htw hin hdone _ listed a w inv (Region.free_spec ho' hf) hr' (yieldsIf_of_in hp' hy) hS
          (seg_headM hsel hQ htw hdone seg _ l' f K _ w (inv.set hr' hin) hB hS hk hK)
    · cases hB

theorem mix_headM {l : List Oper} {n : Nat} {last : List Nat} (hsel : Region.noSelect l.toArray = true) (hQ : ∀ c d v a w, Q (.panic c) (Act.put a d v) w → Q (.panic c) a w)
    (htw : ∀ listed, HeadInv md l.toArray n listed → ∀ i, i < n → listed.getD i true = false → ∀ t, n ≤ t → t ∉ Region.ready md l.toArray listed) :
    ∀ (plan : List (List Nat × Nat)) (listed : Array Bool) (a : Act) (w : World), HeadInv md l.toArray n listed → mixB md l n last plan listed = true → S w →
      wpMix P l S Q (fun a w => wpQuiet P l.toArray S (fun a' => wpList P l.toArray Q (l.drop n) a' w) (pk l last) a) plan a w →
      headM P md l.toArray S Q n (fun listed a w => Region.seqB md l.toArray (l.length - n) n listed = true ∧ wpList P l.toArray Q (l.drop n) a w) (cntM plan + last.length) listed a w
  | [], listed, a, w, inv, hB, hS, h => by
    unfold mixB at hB
    split at hB
    · cases hB
    · rename_i l' hl'
      have := seg_headM (P := P) (S := S) (Q := Q) (L := fun listed a w => Region.seqB md l.toArray (l.length - n) n listed = true ∧ wpList P l.toArray Q (l.drop n) a w) hsel hQ htw (fun listed a w h => seqB_ready h.1) last listed l' 0 _ a w inv hl' hS h (fun _ a' h' => ⟨hB, h'⟩)
      simpa [cntM] using this
  | (seg, i) :: r, listed, a, w, inv, hB, hS, h => by
    unfold mixB at hB
    split at hB
    · cases hB
    · rename_i l' hl'
      simp only [Bool.and_eq_true, decide_eq_true_eq] at hB
      obtain ⟨⟨hr, hin⟩, hB⟩ := hB
      have := seg_headM (P := P) (S := S) (Q := Q) (L := fun listed a w => Region.seqB md l.toArray (l.length - n) n listed = true ∧ wpList P l.toArray Q (l.drop n) a w) hsel hQ htw (fun listed a w h => seqB_ready h.1) seg listed l' (1 + (cntM r + last.length)) _ a w inv hl' hS h (fun inv' a' h' => by
        rw [Nat.add_comm 1]
        refine ⟨by rw [hr]; simp, fun j hj => ?_⟩
        have hj0 := hj
        rw [hr] at hj
        have hji : j = i := by simpa using hj
        subst hji
        refine ⟨hin, ?_⟩
        obtain ⟨_, oj, hoj, _⟩ := mem_ready.1 hj0
        have e : pk l [j] = [oj] := by
          have : l[j]? = some oj := by simpa using hoj
          rw [pk_cons, pushAt_eq _ _ _ this]; rfl
        rw [e] at h'
        exact wpOp_mono (fun a'' w'' h3 => ⟨h3.1, mix_headM hsel hQ htw r _ a'' w'' (inv'.set hj0 hin) hB h3.1 h3.2⟩) (wpOp_of_list hoj h'))
      simp only [cntM]
      rwa [show seg.length + 1 + cntM r + last.length = seg.length + (1 + (cntM r + last.length)) by omega]
end

/-- What is walked: the plan's pure operations and others, the last pure ones, the tail. S: what lay below N lies as it lay. -/
theorem wp_region_mix {P : Program} {id : Nat} {Q : Exit → Act → World → Prop} {a : Act} {w : World} {l : List Oper} (N n : Nat) (plan : List (List Nat × Nat)) (last : List Nat) (hm : P.follows .mixedOrders = true) (hQ : ∀ c d v a w, Q (.panic c) (Act.put a d v) w → Q (.panic c) a w)
    (hB : mixAll l n plan last = true)
    (h : wpMix P l (fun w' => ∃ x : UpW N w, w' = x.w) Q (fun a w1 => wpQuiet P l.toArray (fun w' => ∃ x : UpW N w, w' = x.w) (fun a' => wpList P l.toArray Q (l.drop n) a' w1) (pk l last) a) plan a w.drew) : (Code.region id l.toArray true).wp P Q a w := by
  simp only [mixAll, Bool.and_eq_true, Bool.or_eq_true, decide_eq_true_eq] at hB
  obtain ⟨⟨⟨hsel, hn⟩, hcnt⟩, hmix⟩ := hB
  have hnl : n ≤ l.length := by rcases hn with h | h <;> omega
  have inv0 : HeadInv .any l.toArray n (Array.replicate l.length false) :=
    ⟨by simp, fun j oj _ hl => (by rw [getD_replicate_false] at hl; cases hl), fun t _ ht => getD_in (by simpa using ht) (getD_replicate_false _ _)⟩
  have htw : ∀ listed, HeadInv .any l.toArray n listed → ∀ i, i < n → listed.getD i true = false → ∀ t, n ≤ t → t ∉ Region.ready .any l.toArray listed := fun listed inv i hi hun t ht hr => by
    rcases hn with hn | ⟨⟨hn, hs⟩, hc⟩
    · obtain ⟨_, ot, hot, _⟩ := mem_ready.1 hr
      have := (Array.getElem?_eq_some_iff.1 hot).1
      simp at this
      omega
    · exact tail_waits hs hc (by simpa using hn) inv _ i rfl hi hun t ht hr
  have H := mix_headM (md := .any) hsel hQ htw plan _ a w.drew inv0 hmix ⟨⟨w.drew, (Below.refl N w).drew⟩, rfl⟩ h
  refine wp_region_any hm ?_
  have key := any_of_headM (Q := Q) (g := l.length - n) (fun listed a' w' hL => by
    have := wpAny_of_seq (md := .any) (Q' := Q) (l.drop n) n listed a' w' (fun j => by simp [List.getElem?_drop]) (by rw [List.length_drop]; exact hL.1) hL.2
    rwa [List.length_drop] at this) _ _ _ _ H
  rw [hcnt, show n + (l.length - n) = l.toArray.size by simp; omega] at key
  simpa using key
end Go.Proofs.YtnbccoelbfgmgaaGreatDoor
