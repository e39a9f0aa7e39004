/- A great region that draws its order, walked window by window: which operations may come up is reckoned by numbers' bits; behind each window what is known of memory is laid anew. -/
import Derived.Test.YthjkdeocdhdkaaaMixT
namespace Go.Proofs.Ythjkdeocdhdkaaa
open Go.RowKit
set_option linter.unusedVariables false
/-! ### sets of numbers as bits -/
def bitsOf : List Nat → Nat
  | [] => 0
  | i :: l => bitsOf l ||| 1 <<< i
theorem testBit_one_shift (i k : Nat) : (1 <<< i).testBit k = decide (i = k) := by
  rw [Nat.testBit_shiftLeft]
  by_cases h : i = k
  · subst h; simp
  · by_cases h2 : i ≤ k
    · obtain ⟨n, hn⟩ : ∃ n, k - i = n + 1 := ⟨k - i - 1, by omega⟩
      rw [hn]
      simp [h, Nat.testBit_succ]
    · simp [h, h2]
theorem testBit_bitsOf (l : List Nat) (k : Nat) : (bitsOf l).testBit k = decide (k ∈ l) := by
  induction l with
  | nil => simp [bitsOf]
  | cons i l ih =>
    rw [bitsOf, Nat.testBit_or, ih, testBit_one_shift]
    by_cases h : k = i
    · subst h; simp
    · have : ¬ i = k := fun e => h e.symm
      simp [h, this]
theorem sub_bits {x m : Nat} : (x &&& m == x) = true ↔ ∀ k, x.testBit k = true → m.testBit k = true := by
  rw [beq_iff_eq]
  constructor
  · intro h k hk
    rw [← h, Nat.testBit_and] at hk
    simp at hk; exact hk.2
  · intro h
    apply Nat.eq_of_testBit_eq
    intro k
    rw [Nat.testBit_and]
    cases hx : x.testBit k with
    | false => simp
    | true => simp [h k hx]
theorem and_zero {x y : Nat} (h : (x &&& y == 0) = true) (k : Nat) (hx : x.testBit k = true) : y.testBit k = false := by
  have h1 := congrArg (fun z => z.testBit k) (beq_iff_eq.1 h)
  simpa [Nat.testBit_and, hx] using h1
abbrev Msk := Nat × Nat × Nat
def depM (md : Region.Mode) (o : Oper) : Nat := bitsOf ((o.after.toList.filter fun e => Region.binds md e).map fun e => e.on)
def dstM (o : Oper) : Nat := bitsOf o.dst.toList
def lookM' (ops : Array Oper) (o : Oper) : Nat := bitsOf (o.looksAt ops)
def maskOf (md : Region.Mode) (ops : Array Oper) (o : Oper) : Msk := (depM md o, dstM o, lookM' ops o)
def masksB (md : Region.Mode) (l : List Oper) (M : List Msk) : Bool := l.map (maskOf md l.toArray) == M
def apartM (x y : Msk) : Bool := (x.2.1 &&& y.2.2 == 0) && (x.2.1 &&& y.2.1 == 0) && (y.2.1 &&& x.2.2 == 0)
def rdyL : List Msk → Nat → Nat → List Nat
  | [], _, _ => []
  | x :: M, k, m => if !m.testBit k && (x.1 &&& m == x.1) then k :: rdyL M (k + 1) m else rdyL M (k + 1) m
def freeL (i m : Nat) (xi : Msk) : List Msk → Nat → Bool
  | [], _ => true
  | x :: M, k => (k == i || (m.testBit k || (x.1.testBit i || apartM xi x))) && freeL i m xi M (k + 1)
def freeM (M : List Msk) (i m : Nat) : Bool := match M[i]? with
  | none => false
  | some xi => freeL i m xi M 0
theorem mem_rdyL {j m : Nat} : ∀ (M : List Msk) (k : Nat), j ∈ rdyL M k m ↔ ∃ x, k ≤ j ∧ M[j - k]? = some x ∧ m.testBit j = false ∧ (x.1 &&& m == x.1) = true
  | [], k => by simp [rdyL]
  | x :: M, k => by
    have ih := mem_rdyL (j := j) (m := m) M (k + 1)
    have key : (∃ y, k ≤ j ∧ (x :: M)[j - k]? = some y ∧ m.testBit j = false ∧ (y.1 &&& m == y.1) = true) ↔ ((j = k ∧ m.testBit k = false ∧ (x.1 &&& m == x.1) = true) ∨ j ∈ rdyL M (k + 1) m) := by
      rw [ih]
      constructor
      · rintro ⟨y, h1, h2, h3, h4⟩
        by_cases e : j = k
        · subst e; simp at h2; subst h2; exact .inl ⟨rfl, h3, h4⟩
        · right
          refine ⟨y, by omega, ?_, h3, h4⟩
          rw [show j - k = (j - (k + 1)) + 1 by omega, List.getElem?_cons_succ] at h2
          exact h2
      · rintro (⟨rfl, h2, h3⟩ | ⟨y, h1, h2, h3, h4⟩)
        · exact ⟨x, Nat.le_refl _, by simp, h2, h3⟩
        · refine ⟨y, by omega, ?_, h3, h4⟩
          rw [show j - k = (j - (k + 1)) + 1 by omega, List.getElem?_cons_succ]
          exact h2
    rw [key, show rdyL (x :: M) k m = if !m.testBit k && (x.1 &&& m == x.1) then k :: rdyL M (k + 1) m else rdyL M (k + 1) m from rfl]
    split
    · rename_i h
      simp only [Bool.and_eq_true, Bool.not_eq_true'] at h
      rw [List.mem_cons]
      constructor
      · rintro (rfl | h1)
        · exact .inl ⟨rfl, h.1, h.2⟩
        · exact .inr h1
      · rintro (⟨rfl, _⟩ | h1)
        · exact .inl rfl
        · exact .inr h1
    · rename_i h
      constructor
      · exact .inr
      · rintro (⟨rfl, h1, h2⟩ | h1)
        · exact absurd (by simp [h1, h2]) h
        · exact h1
theorem freeL_spec {i m : Nat} {xi : Msk} : ∀ (M : List Msk) (k : Nat), freeL i m xi M k = true → ∀ j x, k ≤ j → M[j - k]? = some x → j ≠ i → m.testBit j = false → x.1.testBit i = false → apartM xi x = true
  | [], k, _, j, x, _, h, _, _, _ => by simp at h
  | y :: M, k, h, j, x, hk, hx, hne, hun, hno => by
    unfold freeL at h
    simp only [Bool.and_eq_true, Bool.or_eq_true, beq_iff_eq] at h
    by_cases e : j = k
    · subst e
      simp at hx
      subst hx
      rcases h.1 with h1 | h1 | h1 | h1
      · exact absurd h1 hne
      · rw [hun] at h1; cases h1
      · rw [hno] at h1; cases h1
      · exact h1
    · refine freeL_spec M (k + 1) h.2 j x (by omega) ?_ hne hun hno
      rw [show j - k = (j - (k + 1)) + 1 by omega, List.getElem?_cons_succ] at hx
      exact hx
section
variable {P : Program} {md : Region.Mode} {S : World → Prop} {Q : Exit → Act → World → Prop} {l : List Oper} {M : List Msk} {listed : Array Bool} {m : Nat}
/-- The bits of m say what is listed. -/
def RelM (l : List Oper) (listed : Array Bool) (m : Nat) : Prop := listed.size = l.length ∧ ∀ i, i < l.length → listed.getD i true = m.testBit i
theorem RelM.set (h : RelM l listed m) (i : Nat) : RelM l (listed.setIfInBounds i true) (m ||| 1 <<< i) := by
  refine ⟨by simpa using h.1, fun j hj => ?_⟩
  rw [Nat.testBit_or, testBit_one_shift]
  by_cases e : i = j
  · subst e
    simp
  · rw [getD_set_ne true e, h.2 j hj]
    simp [e]
theorem masks_at (hM : masksB md l M = true) {j : Nat} {o : Oper} (ho : l[j]? = some o) : M[j]? = some (maskOf md l.toArray o) := by
  unfold masksB at hM
  rw [← beq_iff_eq.1 hM, List.getElem?_map, ho]; rfl
theorem dep_bit (o : Oper) (k : Nat) : (depM md o).testBit k = true ↔ ∃ e ∈ o.after, Region.binds md e = true ∧ e.on = k := by
  unfold depM
  rw [testBit_bitsOf]
  simp only [decide_eq_true_eq, List.mem_map, List.mem_filter, Array.mem_toList_iff]
  constructor
  · rintro ⟨e, ⟨h1, h2⟩, h3⟩; exact ⟨e, h1, h2, h3⟩
  · rintro ⟨e, h1, h2, h3⟩; exact ⟨e, ⟨h1, h2⟩, h3⟩
theorem rdy_iff (hM : masksB md l M = true) (hr : RelM l listed m) {j : Nat} (hb : ∀ e o, l[j]? = some o → e ∈ o.after → Region.binds md e = true → e.on < l.length) : j ∈ Region.ready md l.toArray listed ↔ j ∈ rdyL M 0 m := by
  rw [mem_ready, mem_rdyL]
  constructor
  · rintro ⟨h1, o, ho, h2⟩
    have ho' : l[j]? = some o := by simpa using ho
    have hj := (List.getElem?_eq_some_iff.1 ho').1
    refine ⟨_, Nat.zero_le _, by rw [Nat.sub_zero]; exact masks_at hM ho', ?_, sub_bits.2 fun k hk => ?_⟩
    · rw [← hr.2 j hj]; exact h1
    · obtain ⟨e, he, hbi, rfl⟩ := (dep_bit o k).1 hk
      have h3 := h2 e he hbi
      rw [← hr.2 e.on (hb e o ho' he hbi)]
      rcases Nat.lt_or_ge e.on listed.size with h4 | h4
      · simp [h4] at h3 ⊢; exact h3
      · simp [Array.getElem?_eq_none h4]
  · rintro ⟨x, _, hx, h1, h2⟩
    rw [Nat.sub_zero] at hx
    unfold masksB at hM
    rw [← beq_iff_eq.1 hM, List.getElem?_map] at hx
    cases ho : l[j]? with
    | none => rw [ho] at hx; cases hx
    | some o =>
      rw [ho] at hx
      simp only [Option.map_some, Option.some.injEq] at hx
      subst hx
      have hj := (List.getElem?_eq_some_iff.1 ho).1
      refine ⟨by rw [hr.2 j hj]; exact h1, o, by simpa using ho, fun e he hbi => ?_⟩
      have h3 := sub_bits.1 h2 e.on ((dep_bit o e.on).2 ⟨e, he, hbi, rfl⟩)
      have h4 := hb e o ho he hbi
      rw [← hr.2 e.on h4] at h3
      have h5 : e.on < listed.size := by rw [hr.1]; exact h4
      simp [h5] at h3 ⊢; exact h3
theorem apart_of (ops : Array Oper) (x y : Oper) (h : apartM (maskOf md ops x) (maskOf md ops y) = true) : x.apart ops y = true := by
  unfold apartM maskOf at h
  simp only [Bool.and_eq_true] at h
  obtain ⟨⟨h1, h2⟩, h3⟩ := h
  unfold Oper.apart
  rw [Bool.and_eq_true]
  constructor
  · split
    · rename_i d hd
      have hx : (dstM x).testBit d = true := by unfold dstM; rw [testBit_bitsOf, hd]; simp
      have g1 := and_zero h1 d hx
      have g2 := and_zero h2 d hx
      unfold lookM' at g1
      unfold dstM at g2
      rw [testBit_bitsOf] at g1 g2
      simp at g1 g2 ⊢
      exact ⟨g1, g2⟩
    · rfl
  · split
    · rename_i d hd
      have hy : (dstM y).testBit d = true := by unfold dstM; rw [testBit_bitsOf, hd]; simp
      have g1 := and_zero h3 d hy
      unfold lookM' at g1
      rw [testBit_bitsOf] at g1
      simp at g1 ⊢
      exact g1
    · rfl
theorem free_of (hM : masksB md l M = true) (hr : RelM l listed m) {i : Nat} {oi : Oper} (hi : l[i]? = some oi) (h : freeM M i m = true) (j : Nat) (oj : Oper) (hj : l.toArray[j]? = some oj) (hne : j ≠ i) (hun : listed.getD j true = false)
    (hno : ∀ e ∈ oj.after, Region.binds md e = true → e.on ≠ i) : oi.apart l.toArray oj = true := by
  have hj' : l[j]? = some oj := by simpa using hj
  unfold freeM at h
  rw [masks_at hM hi] at h
  simp only at h
  refine apart_of (md := md) _ _ _ (freeL_spec M 0 h j _ (Nat.zero_le _) (by rw [Nat.sub_zero]; exact masks_at hM hj') hne (by rw [← hr.2 j (List.getElem?_eq_some_iff.1 hj').1]; exact hun) ?_)
  cases hd : (maskOf md l.toArray oj).1.testBit i with
  | false => rfl
  | true =>
    obtain ⟨e, he, hb, hon⟩ := (dep_bit oj i).1 hd
    exact absurd hon (hno e he hb)
/-! ### windows -/
/-- Whatever is ahead of d - 1 is waited for by something that comes up to d - 1 at last. -/
def sinkM (M : List Msk) (d : Nat) : Bool := (List.range (d - 1)).all fun i => ((M.drop (i + 1)).take (d - 1 - i)).any fun x => x.1.testBit i
/-- Whatever comes from d on waits for something from d - 1 on that stands ahead of it. -/
def rootL (d : Nat) : List Msk → Nat → Bool
  | [], _ => true
  | x :: M, t => (decide (t < d) || ((x.1 % 2 ^ t) >>> (d - 1) != 0)) && rootL d M (t + 1)
/-- All waits are for operations of the region. -/
def inB' (n : Nat) (M : List Msk) : Bool := M.all fun x => decide (x.1 < 2 ^ n)
def segM (l : List Oper) (M : List Msk) (n : Nat) : List Nat → Nat → Option Nat
  | [], m => some m
  | i :: r, m => if ((l[i]?).map pureOp).getD false && decide (i < n) && (rdyL M 0 m).contains i && freeM M i m then segM l M n r (m ||| 1 <<< i) else none
def planM (l : List Oper) (M : List Msk) (n : Nat) : PlanT → Nat → Option Nat
  | .done last, m => segM l M n last m
  | .one seg i r, m => match segM l M n seg m with
    | none => none
    | some m' => if decide (rdyL M 0 m' = [i]) && decide (i < n) then planM l M n r (m' ||| 1 <<< i) else none
  | .two seg i r j s, m => match segM l M n seg m with
    | none => none
    | some m' => if decide (rdyL M 0 m' = [i, j]) && decide (i < n) && decide (j < n) && decide (cntT r = cntT s) then (match planM l M n r (m' ||| 1 <<< i), planM l M n s (m' ||| 1 <<< j) with
      | some a, some b => if a = b then some a else none
      | _, _ => none) else none
def winsM (l : List Oper) (M : List Msk) : List (Nat × PlanT) → Nat → Nat → Bool
  | [], _, m => decide (m = 2 ^ l.length - 1)
  | (d, p) :: r, c, m => decide (0 < d) && decide (d ≤ l.length) && sinkM M d && rootL d M 0 && decide (cntT p = d - c) && decide (c ≤ d) && (match planM l M d p m with
    | some m' => decide (m' = 2 ^ d - 1) && winsM l M r d m'
    | none => false)
/-- What is walked: at each window the class of what may be turned in it (T). -/
def wpWins (P : Program) (l : List Oper) (Q : Exit → Act → World → Prop) : List (Nat × PlanT) → Act → World → Prop
  | [], a, w => Q .normal a w
  | (_, p) :: r, a, w => ∃ T : Nat → Prop, wpMixT P l (fun w' => ∃ x : OnW T w, w' = x.w) Q (fun a w => wpWins P l Q r a w) p a w

theorem binds_in (hM : masksB md l M = true) (hin : inB' l.length M = true) {j : Nat} (e : Edge) (o : Oper) (ho : l[j]? = some o) (he : e ∈ o.after) (hb : Region.binds md e = true) : e.on < l.length := by
  have h1 := List.all_eq_true.1 hin _ (List.mem_of_getElem? (masks_at hM ho))
  simp only [decide_eq_true_eq] at h1
  have h2 := (dep_bit (md := md) o e.on).2 ⟨e, he, hb, rfl⟩
  rcases Nat.lt_or_ge e.on l.length with h | h
  · exact h
  · have := Nat.testBit_lt_two_pow (x := (maskOf md l.toArray o).1) (i := e.on) (Nat.lt_of_lt_of_le h1 (Nat.pow_le_pow_right (by omega) h))
    rw [show (maskOf md l.toArray o).1 = depM md o from rfl, h2] at this
    cases this
theorem root_at {d : Nat} : ∀ (M : List Msk) (t0 : Nat), rootL d M t0 = true → ∀ t x, t0 ≤ t → M[t - t0]? = some x → d ≤ t → ∃ e, d - 1 ≤ e ∧ e < t ∧ x.1.testBit e = true
  | [], t0, _, t, x, _, h, _ => by simp at h
  | y :: M, t0, h, t, x, ht, hx, hd => by
    unfold rootL at h
    simp only [Bool.and_eq_true, Bool.or_eq_true, decide_eq_true_eq] at h
    by_cases e : t = t0
    · subst e
      simp at hx
      subst hx
      have h1 : ((y.1 % 2 ^ t) >>> (d - 1) != 0) = true := by
        rcases h.1 with h1 | h1
        · omega
        · exact h1
      have h2 : (y.1 % 2 ^ t) >>> (d - 1) ≠ 0 := by simpa using h1
      obtain ⟨q, hq⟩ := Nat.exists_testBit_of_ne_zero h2
      rw [Nat.testBit_shiftRight, Nat.testBit_mod_two_pow] at hq
      simp only [Bool.and_eq_true, decide_eq_true_eq] at hq
      exact ⟨d - 1 + q, by omega, hq.1, hq.2⟩
    · refine root_at M (t0 + 1) h.2 t x (by omega) ?_ hd
      rw [show t - t0 = (t - (t0 + 1)) + 1 by omega, List.getElem?_cons_succ] at hx
      exact hx
theorem sink_at {d i : Nat} (hs : sinkM M d = true) (hi : i < d - 1) : ∃ j x, i < j ∧ j ≤ d - 1 ∧ M[j]? = some x ∧ x.1.testBit i = true := by
  have h1 := List.all_eq_true.1 hs i (List.mem_range.2 hi)
  obtain ⟨x, hx, hb⟩ := List.any_eq_true.1 h1
  obtain ⟨q, hq⟩ := List.mem_iff_getElem?.1 hx
  rw [List.getElem?_take] at hq
  split at hq
  · rename_i hlt
    rw [List.getElem?_drop] at hq
    exact ⟨i + 1 + q, x, by omega, by omega, hq, hb⟩
  · cases hq
theorem win_waits (hM : masksB md l M = true) {d : Nat} (hs : sinkM M d = true) (hc : rootL d M 0 = true) (hd : 0 < d) (listed : Array Bool) (inv : HeadInv md l.toArray d listed) :
    ∀ i, i < d → listed.getD i true = false → ∀ t, d ≤ t → t ∉ Region.ready md l.toArray listed := by
  -- the last of the window is not listed
  have key : ∀ (q i : Nat), d - 1 - i = q → i < d → listed.getD i true = false → listed.getD (d - 1) true = false := by
    intro q
    induction q using Nat.strongRecOn with
    | _ q ih =>
      intro i hq hi hun
      by_cases e : i = d - 1
      · rw [← e]; exact hun
      · obtain ⟨j, x, h1, h2, h3, h4⟩ := sink_at hs (show i < d - 1 by omega)
        have hM' := hM
        unfold masksB at hM'
        rw [← beq_iff_eq.1 hM', List.getElem?_map] at h3
        cases ho : l[j]? with
        | none => rw [ho] at h3; cases h3
        | some o =>
          rw [ho] at h3
          simp only [Option.map_some, Option.some.injEq] at h3
          subst h3
          obtain ⟨ed, he, hb, hon⟩ := (dep_bit o i).1 h4
          have hjl := (List.getElem?_eq_some_iff.1 ho).1
          cases hl : listed.getD j false with
          | true =>
            have h5 := inv.closed j o (by simpa using ho) hl ed he hb
            rw [hon, getD_both hun] at h5
            cases h5
          | false =>
            have hjs : j < listed.size := by rw [inv.size]; simpa using hjl
            exact ih (d - 1 - j) (by omega) j rfl (by omega) (getD_in hjs hl)
  intro i hi hun t ht hr
  have hlast := key _ i rfl hi hun
  obtain ⟨_, o, ho, hall⟩ := mem_ready.1 hr
  have ho' : l[t]? = some o := by simpa using ho
  have htl := (List.getElem?_eq_some_iff.1 ho').1
  obtain ⟨e, h1, h2, h3⟩ := root_at M 0 hc t _ (Nat.zero_le _) (by rw [Nat.sub_zero]; exact masks_at hM ho') ht
  obtain ⟨ed, he, hb, hon⟩ := (dep_bit o e).1 h3
  have h4 := hall ed he hb
  rw [hon] at h4
  by_cases e1 : e = d - 1
  · rw [e1, getD_both hlast] at h4; cases h4
  · have h5 := inv.tail e (by omega) (by simp; omega)
    rw [getD_both h5] at h4; cases h4
theorem headM_first' {n i : Nat} {oi : Oper} {v : Value} {L : Array Bool → Act → World → Prop} (hi : l.toArray[i]? = some oi) (hsel : Region.noSelect l.toArray = true)
    (hQ : ∀ c d v a w, Q (.panic c) (Act.put a d v) w → Q (.panic c) a w)
    (htw : ∀ listed, HeadInv md l.toArray n listed → ∀ i, i < n → listed.getD i true = false → ∀ t, n ≤ t → t ∉ Region.ready md l.toArray listed) (hin : i < n) (hdone : ∀ listed a w, L listed a w → ∀ j ∈ Region.ready md l.toArray listed, n ≤ j)
    (f : Nat) (listed : Array Bool) (a : Act) (w : World) (inv : HeadInv md l.toArray n listed)
      (hfree : ∀ j oj, l.toArray[j]? = some oj → j ≠ i → listed.getD j true = false → (∀ e ∈ oj.after, Region.binds md e = true → e.on ≠ i) → oi.apart l.toArray oj = true)
      (hr : i ∈ Region.ready md l.toArray listed) (hy : YieldsIf P l.toArray S oi v a) (hS : S w) (H : headM P md l.toArray S Q n L f (listed.setIfInBounds i true) (a.put oi.dst v) w) : headM P md l.toArray S Q n L (f + 1) listed a w :=
  headM_first hi (Region.noSelect_spec hsel) (fun c a w h => hQ c _ _ a w h) htw hin hdone f listed a w inv hfree hr hy hS H
theorem segM_headM {n : Nat} {L : Array Bool → Act → World → Prop} (hsel : Region.noSelect l.toArray = true) (hM : masksB md l M = true) (hib : inB' l.length M = true) (hQ : ∀ c d v a w, Q (.panic c) (Act.put a d v) w → Q (.panic c) a w)
    (htw : ∀ listed, HeadInv md l.toArray n listed → ∀ i, i < n → listed.getD i true = false → ∀ t, n ≤ t → t ∉ Region.ready md l.toArray listed) (hdone : ∀ listed a w, L listed a w → ∀ j ∈ Region.ready md l.toArray listed, n ≤ j) :
    ∀ (seg : List Nat) (listed : Array Bool) (m m' : Nat) (f : Nat) (K : Act → Prop) (a : Act) (w : World), HeadInv md l.toArray n listed → RelM l listed m → segM l M n seg m = some m' → S w → wpQuiet P l.toArray S K (pk l seg) a →
      (∀ listed' a', HeadInv md l.toArray n listed' → RelM l listed' m' → K a' → headM P md l.toArray S Q n L f listed' a' w) → headM P md l.toArray S Q n L (seg.length + f) listed a w
  | [], listed, m, m', f, K, a, w, inv, hrel, hB, hS, h, hK => by
    simp only [segM, Option.some.injEq] at hB
    subst hB
    rw [List.length_nil, Nat.zero_add]
    exact hK _ a inv hrel h
  | i :: seg, listed, m, m', f, K, a, w, inv, hrel, hB, hS, h, hK => by
    unfold segM at hB
    split at hB
    · rename_i hc
      simp only [Bool.and_eq_true, decide_eq_true_eq] at hc
      obtain ⟨⟨⟨hp, hin⟩, hr⟩, hf⟩ := hc
      cases ho : l[i]? with
      | none => rw [ho] at hp; simp at hp
      | some o =>
        rw [ho] at hp
        have hp' : pureOp o = true := by simpa using hp
        have ho' : l.toArray[i]? = some o := by simpa using ho
        have hr' : i ∈ Region.ready md l.toArray listed := (rdy_iff hM hrel (fun e o ho he hb => binds_in hM hib e o ho he hb)).2 (by simpa using hr)
        have hst : qOp P l.toArray S i (wpQuiet P l.toArray S K (pk l seg)) a := by
          unfold qOp
          simp only [ho']
          have e : pk l (i :: seg) = o :: pk l seg := by rw [pk_cons, pushAt_eq _ _ _ ho]
          rw [e] at h
          exact h
        obtain ⟨v, hy, hk⟩ := yieldsIn_of_qOp ho' hst
        rw [List.length_cons, show seg.length + 1 + f = (seg.length + f) + 1 by omega]
        exact headM_first' ho' hsel hQ htw hin hdone _ listed a w inv (fun j oj hj hne hun hno => free_of hM hrel ho hf j oj hj hne hun hno) hr' (yieldsIf_of_in hp' hy) hS
          (segM_headM hsel hM hib hQ htw hdone seg _ _ m' f K _ w (inv.set hr' hin) (hrel.set i) hB hS hk hK)
    · cases hB
theorem planM_headM {n : Nat} {T : Act → World → Prop} {L : Array Bool → Act → World → Prop} {mE : Nat} (hsel : Region.noSelect l.toArray = true) (hM : masksB md l M = true) (hib : inB' l.length M = true) (hQ : ∀ c d v a w, Q (.panic c) (Act.put a d v) w → Q (.panic c) a w)
    (htw : ∀ listed, HeadInv md l.toArray n listed → ∀ i, i < n → listed.getD i true = false → ∀ t, n ≤ t → t ∉ Region.ready md l.toArray listed) (hdone : ∀ listed a w, L listed a w → ∀ j ∈ Region.ready md l.toArray listed, n ≤ j)
    (hT : ∀ listed a w, HeadInv md l.toArray n listed → RelM l listed mE → T a w → L listed a w) :
    ∀ (plan : PlanT) (listed : Array Bool) (m : Nat) (a : Act) (w : World), HeadInv md l.toArray n listed → RelM l listed m → planM l M n plan m = some mE → S w →
      wpMixT P l S Q T plan a w → headM P md l.toArray S Q n L (cntT plan) listed a w
  | .done last, listed, m, a, w, inv, hrel, hB, hS, h => by
    have := segM_headM (P := P) (S := S) (Q := Q) (L := L) hsel hM hib hQ htw hdone last listed m mE 0 _ a w inv hrel hB hS h (fun listed' a' inv' hrel' h' => hT _ _ _ inv' hrel' h')
    simpa [cntT] using this
  | .one seg i r, listed, m, a, w, inv, hrel, hB, hS, h => by
    unfold planM at hB
    split at hB
    · cases hB
    · rename_i m' hm'
      split at hB
      · rename_i hc
        simp only [Bool.and_eq_true, decide_eq_true_eq] at hc
        obtain ⟨hr, hin⟩ := hc
        have := segM_headM (P := P) (S := S) (Q := Q) (L := L) hsel hM hib hQ htw hdone seg listed m m' (1 + cntT r) _ a w inv hrel hm' hS h (fun listed' a' inv' hrel' h' => by
          have hiff := fun j => rdy_iff (j := j) hM hrel' (fun e o ho he hb => binds_in hM hib e o ho he hb)
          rw [Nat.add_comm 1]
          have hi : i ∈ Region.ready md l.toArray listed' := (hiff i).2 (by rw [hr]; simp)
          refine ⟨fun h0 => by (rw [h0] at hi; cases hi), fun j hj => ?_⟩
          have hji : j = i := by
            have := (hiff j).1 hj
            rw [hr] at this
            simpa using this
          subst hji
          refine ⟨hin, ?_⟩
          obtain ⟨_, oj, hoj, _⟩ := mem_ready.1 hj
          have e : pk l [j] = [oj] := by
            have : l[j]? = some oj := by simpa using hoj
            rw [pk_cons, pushAt_eq _ _ _ this]; rfl
          rw [e] at h'
          exact wpOp_mono (fun a'' w'' h3 => ⟨h3.1, planM_headM hsel hM hib hQ htw hdone hT r _ _ a'' w'' (inv'.set hj hin) (hrel'.set j) hB h3.1 h3.2⟩) (wpOp_of_list hoj h'))
        simp only [cntT]
        rwa [show seg.length + 1 + cntT r = seg.length + (1 + cntT r) by omega]
      · cases hB
  | .two seg i r j s, listed, m, a, w, inv, hrel, hB, hS, h => by
    unfold planM at hB
    split at hB
    · cases hB
    · rename_i m' hm'
      split at hB
      · rename_i hc
        simp only [Bool.and_eq_true, decide_eq_true_eq] at hc
        obtain ⟨⟨⟨hr, hin⟩, hjn⟩, hcnt⟩ := hc
        split at hB
        · rename_i x y hx hy
          split at hB
          · rename_i hxy
            subst hxy
            simp only [Option.some.injEq] at hB
            subst hB
            have := segM_headM (P := P) (S := S) (Q := Q) (L := L) hsel hM hib hQ htw hdone seg listed m m' (1 + cntT r) _ a w inv hrel hm' hS h (fun listed' a' inv' hrel' h' => by
              have hiff := fun j => rdy_iff (j := j) hM hrel' (fun e o ho he hb => binds_in hM hib e o ho he hb)
              rw [Nat.add_comm 1]
              have hi : i ∈ Region.ready md l.toArray listed' := (hiff i).2 (by rw [hr]; simp)
              refine ⟨fun h0 => by (rw [h0] at hi; cases hi), fun t ht => ?_⟩
              have hti : t = i ∨ t = j := by
                have := (hiff t).1 ht
                rw [hr] at this
                simpa using this
              obtain ⟨_, ot, hot, _⟩ := mem_ready.1 ht
              have e : pk l [t] = [ot] := by
                have : l[t]? = some ot := by simpa using hot
                rw [pk_cons, pushAt_eq _ _ _ this]; rfl
              rcases hti with rfl | rfl
              · refine ⟨hin, ?_⟩
                have h1 := h'.1
                rw [e] at h1
                exact wpOp_mono (fun a'' w'' h3 => ⟨h3.1, planM_headM hsel hM hib hQ htw hdone hT r _ _ a'' w'' (inv'.set ht hin) (hrel'.set t) hx h3.1 h3.2⟩) (wpOp_of_list hot h1)
              · refine ⟨hjn, ?_⟩
                have h1 := h'.2
                rw [e] at h1
                rw [hcnt]
                exact wpOp_mono (fun a'' w'' h3 => ⟨h3.1, planM_headM hsel hM hib hQ htw hdone hT s _ _ a'' w'' (inv'.set ht hjn) (hrel'.set t) hy h3.1 h3.2⟩) (wpOp_of_list hot h1))
            simp only [cntT]
            rwa [show seg.length + 1 + cntT r = seg.length + (1 + cntT r) by omega]
          · cases hB
        · cases hB
      · cases hB
theorem full_bits {d j : Nat} (h : j < d) : (2 ^ d - 1).testBit j = true := by
  rw [Nat.testBit_two_pow_sub_one]; simpa using h
theorem wins_any (hsel : Region.noSelect l.toArray = true) (hM : masksB md l M = true) (hib : inB' l.length M = true) (hQ : ∀ c d v a w, Q (.panic c) (Act.put a d v) w → Q (.panic c) a w) :
    ∀ (ws : List (Nat × PlanT)) (c m : Nat) (listed : Array Bool) (a : Act) (w : World), HeadInv md l.toArray c listed → RelM l listed m → c ≤ l.length → winsM l M ws c m = true → wpWins P l Q ws a w →
      wpAny P md l.toArray Q (l.length - c) listed a w
  | [], c, m, listed, a, w, inv, hrel, hcl, hB, h => by
    simp only [winsM, decide_eq_true_eq] at hB
    have hemp : Region.ready md l.toArray listed = [] := by
      apply List.eq_nil_iff_forall_not_mem.2
      intro j hj
      obtain ⟨h1, o, ho, _⟩ := mem_ready.1 hj
      have hjl : j < l.length := by have := (Array.getElem?_eq_some_iff.1 ho).1; simpa using this
      rw [hrel.2 j hjl, hB, full_bits hjl] at h1
      cases h1
    cases hn : l.length - c with
    | zero => exact ⟨hemp, h⟩
    | succ k => exact ⟨fun _ => h, fun i hi => by rw [hemp] at hi; cases hi⟩
  | (d, p) :: r, c, m, listed, a, w, inv, hrel, hcl, hB, h => by
    unfold winsM at hB
    simp only [Bool.and_eq_true, decide_eq_true_eq] at hB
    obtain ⟨⟨⟨⟨⟨⟨hd0, hdl⟩, hs⟩, hr⟩, hcnt⟩, hcd⟩, hB⟩ := hB
    split at hB
    · rename_i m' hm'
      simp only [Bool.and_eq_true, decide_eq_true_eq] at hB
      obtain ⟨hfull, hB⟩ := hB
      obtain ⟨T, h⟩ := h
      have htw := fun listed inv => win_waits hM hs hr hd0 listed inv
      have inv' : HeadInv md l.toArray d listed := ⟨inv.size, inv.closed, fun t ht htl => inv.tail t (by omega) htl⟩
      have H := planM_headM (S := fun w' => ∃ x : OnW T w, w' = x.w) (L := fun listed a w => HeadInv md l.toArray d listed ∧ RelM l listed (2 ^ d - 1) ∧ wpWins P l Q r a w) hsel hM hib hQ htw
        (fun listed a w hL j hj => by
          obtain ⟨h1, o, ho, _⟩ := mem_ready.1 hj
          rcases Nat.lt_or_ge j d with h2 | h2
          · rw [hL.2.1.2 j (by omega), full_bits h2] at h1; cases h1
          · exact h2)
        (fun listed a w i1 i2 i3 => ⟨i1, i2, i3⟩) p listed m a w inv' hrel (by rw [hm', hfull]) ⟨⟨w, Only.refl T w⟩, rfl⟩ h
      have := any_of_headM (Q := Q) (g := l.length - d) (fun listed a w hL => wins_any hsel hM hib hQ r d (2 ^ d - 1) listed a w hL.1 hL.2.1 hdl (by rw [← hfull]; exact hB) hL.2.2) _ _ _ _ H
      rw [hcnt] at this
      rwa [show d - c + (l.length - d) = l.length - c by omega] at this
    · cases hB
end
/-- What the kernel reckons once. -/
def winsAll (l : List Oper) (M : List Msk) (ws : List (Nat × PlanT)) : Bool := Region.noSelect l.toArray && (masksB .any l M && (inB' l.length M && winsM l M ws 0 0))
theorem wp_region_wins {P : Program} {id : Nat} {Q : Exit → Act → World → Prop} {a : Act} {w : World} {l : List Oper} (M : List Msk) (ws : List (Nat × PlanT)) (hm : P.follows .mixedOrders = true) (hQ : ∀ c d v a w, Q (.panic c) (Act.put a d v) w → Q (.panic c) a w)
    (hB : winsAll l M ws = true) (h : wpWins P l Q ws a w.drew) : (Code.region id l.toArray true).wp P Q a w := by
  simp only [winsAll, Bool.and_eq_true] at hB
  obtain ⟨hsel, hM, hib, hw⟩ := hB
  refine wp_region_any hm ?_
  have inv0 : HeadInv .any l.toArray 0 (Array.replicate l.length false) :=
    ⟨by simp, fun j oj _ hl => (by rw [getD_replicate_false] at hl; cases hl), fun t _ ht => getD_in (by simpa using ht) (getD_replicate_false _ _)⟩
  have rel0 : RelM l (Array.replicate l.length false) 0 := ⟨by simp, fun i hi => by simp [hi]⟩
  have := wins_any hsel hM hib hQ ws 0 0 _ a w.drew inv0 rel0 (Nat.zero_le _) hw h
  simpa using this
theorem wins_next {P : Program} {l : List Oper} {Q : Exit → Act → World → Prop} {d : Nat} {p : PlanT} {r : List (Nat × PlanT)} {a : Act} {w : World} (T : Nat → Prop)
    (h : wpMixT P l (fun w' => ∃ x : OnW T w, w' = x.w) Q (fun a w => wpWins P l Q r a w) p a w) : wpWins P l Q ((d, p) :: r) a w := ⟨T, h⟩
theorem wins_end {P : Program} {l : List Oper} {Q : Exit → Act → World → Prop} {a : Act} {w : World} (h : Q .normal a w) : wpWins P l Q [] a w := h
end Go.Proofs.Ythjkdeocdhdkaaa
