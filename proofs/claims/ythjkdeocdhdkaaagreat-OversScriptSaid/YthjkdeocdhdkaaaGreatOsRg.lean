import Derived.Test.YthjkdeocdhdkaaaGreatMixT
import Derived.Test.YthjkdeocdhdkaaaGreatOsRf
/- A great region that draws its order, walked window by window: which operations may come up is reckoned by numbers' bits; behind each window what is known of memory is laid anew. -/
namespace Go.Proofs.YthjkdeocdhdkaaaGreat
open Go.RowKit
set_option linter.unusedVariables false
/-! ### sets of numbers as bits -/
def bitsOf : List Nat → Nat
  | [] => 0
  | i :: l => bitsOf l ||| 1 <<< i
theorem testBit_one_shift (i k : Nat) : (1 <<< i).testBit k = decide (i = k) := by
  rw [Nat.testBit_shiftLeft]
  by_cases h : i = k
  · subst h; simp
  · by_cases h2 : i ≤ k
    · obtain ⟨n, hn⟩ : ∃ n, k - i = n + 1 := ⟨k - i - 1, by omega⟩
      rw [hn]
      simp [h, Nat.testBit_succ]
    · simp [h, h2]
theorem testBit_bitsOf (l : List Nat) (k : Nat) : (bitsOf l).testBit k = decide (k ∈ l) := by
  induction l with
  | nil => simp [bitsOf]
  | cons i l ih =>
    rw [bitsOf, Nat.testBit_or, ih, testBit_one_shift]
    by_cases h : k = i
    · subst h; simp
    · have : ¬ i = k := fun e => h e.symm
      simp [h, this]
theorem sub_bits {x m : Nat} : (x &&& m == x) = true ↔ ∀ k, x.testBit k = true → m.testBit k = true := by
  rw [beq_iff_eq]
  constructor
  · intro h k hk
    rw [← h, Nat.testBit_and] at hk
    simp at hk; exact hk.2
  · intro h
    apply Nat.eq_of_testBit_eq
    intro k
    rw [Nat.testBit_and]
    cases hx : x.testBit k with
    | false => simp
    | true => simp [h k hx]
theorem and_zero {x y : Nat} (h : (x &&& y == 0) = true) (k : Nat) (hx : x.testBit k = true) : y.testBit k = false := by
  have h1 := congrArg (fun z => z.testBit k) (beq_iff_eq.1 h)
  simpa [Nat.testBit_and, hx] using h1
abbrev Msk := Nat × Nat × Nat
def depM (md : Region.Mode) (o : Oper) : Nat := bitsOf ((o.after.toList.filter fun e => Region.binds md e).map fun e => e.on)
def dstM (o : Oper) : Nat := bitsOf o.dst.toList
def lookM' (ops : Array Oper) (o : Oper) : Nat := bitsOf (o.looksAt ops)
def maskOf (md : Region.Mode) (ops : Array Oper) (o : Oper) : Msk := (depM md o, dstM o, lookM' ops o)
def masksB (md : Region.Mode) (l : List Oper) (M : List Msk) : Bool := l.map (maskOf md l.toArray) == M
def apartM (x y : Msk) : Bool := (x.2.1 &&& y.2.2 == 0) && (x.2.1 &&& y.2.1 == 0) && (y.2.1 &&& x.2.2 == 0)
def rdyL : List Msk → Nat → Nat → List Nat
  | [], _, _ => []
  | x :: M, k, m => if !m.testBit k && (x.1 &&& m == x.1) then k :: rdyL M (k + 1) m else rdyL M (k + 1) m
def freeL (i m : Nat) (xi : Msk) : List Msk → Nat → Bool
  | [], _ => true
  | x :: M, k => (k == i || (m.testBit k || (x.1.testBit i || apartM xi x))) && freeL i m xi M (k + 1)
def freeM (M : List Msk) (i m : Nat) : Bool := match M[i]? with
  | none => false
  | some xi => freeL i m xi M 0
theorem mem_rdyL {j m : Nat} : ∀ (M : List Msk) (k : Nat), j ∈ rdyL M k m ↔ ∃ x, k ≤ j ∧ M[j - k]? = some x ∧ m.testBit j = false ∧ (x.1 &&& m == x.1) = true
  | [], k => by simp [rdyL]
  | x :: M, k => by
    have ih := mem_rdyL (j := j) (m := m) M (k + 1)
    have key : (∃ y, k ≤ j ∧ (x :: M)[j - k]? = some y ∧ m.testBit j = false ∧ (y.1 &&& m == y.1) = true) ↔ ((j = k ∧ m.testBit k = false ∧ (x.1 &&& m == x.1) = true) ∨ j ∈ rdyL M (k + 1) m) := by
      rw [ih]
      constructor
      · rintro ⟨y, h1, h2, h3, h4⟩
        by_cases e : j = k
        · subst e; simp at h2; subst h2; exact .inl ⟨rfl, h3, h4⟩
        · right
          refine ⟨y, by omega, ?_, h3, h4⟩
          rw [show j - k = (j - (k + 1)) + 1 by omega, List.getElem?_cons_succ] at h2
          exact h2
      · rintro (⟨rfl, h2, h3⟩ | ⟨y, h1, h2, h3, h4⟩)
        · exact ⟨x, Nat.le_refl _, by simp, h2, h3⟩
        · refine ⟨y, by omega, ?_, h3, h4⟩
          rw [show j - k = (j - (k + 1)) + 1 by omega, List.getElem?_cons_succ]
          exact h2
    rw [key, show rdyL (x :: M) k m = if !m.testBit k && (x.1 &&& m == x.1) then k :: rdyL M (k + 1) m else rdyL M (k + 1) m from rfl]
    split
    · rename_i h
      simp only [Bool.and_eq_true, Bool.not_eq_true'] at h
      rw [List.mem_cons]
      constructor
      · rintro (rfl | h1)
        · exact .inl ⟨rfl, h.1, h.2⟩
        · exact .inr h1
      · rintro (⟨rfl, _⟩ | h1)
        · exact .inl rfl
        · exact .inr h1
    · rename_i h
      constructor
      · exact .inr
      · rintro (⟨rfl, h1, h2⟩ | h1)
        · exact absurd (by simp [h1, h2]) h
        · exact h1
theorem freeL_spec {i m : Nat} {xi : Msk} : ∀ (M : List Msk) (k : Nat), freeL i m xi M k = true → ∀ j x, k ≤ j → M[j - k]? = some x → j ≠ i → m.testBit j = false → x.1.testBit i = false → apartM xi x = true
  | [], k, _, j, x, _, h, _, _, _ => by simp at h
  | y :: M, k, h, j, x, hk, hx, hne, hun, hno => by
    unfold freeL at h
    simp only [Bool.and_eq_true, Bool.or_eq_true, beq_iff_eq] at h
    by_cases e : j = k
    · subst e
      simp at hx
      subst hx
      rcases h.1 with h1 | h1 | h1 | h1
      · exact absurd h1 hne
      · rw [hun] at h1; cases h1
      · rw [hno] at h1; cases h1
      · exact h1
    · refine freeL_spec M (k + 1) h.2 j x (by omega) ?_ hne hun hno
      rw [show j - k = (j - (k + 1)) + 1 by omega, List.getElem?_cons_succ] at hx
      exact hx
section
variable {P : Program} {md : Region.Mode} {S : World → Prop} {Q : Exit → Act → World → Prop} {l : List Oper} {M : List Msk} {listed : Array Bool} {m : Nat}
/-- The bits of m say what is listed. -/
def RelM (l : List Oper) (listed : Array Bool) (m : Nat) : Prop := listed.size = l.length ∧ ∀ i, i < l.length → listed.getD i true = m.testBit i
theorem RelM.set (h : RelM l listed m) (i : Nat) : RelM l (listed.setIfInBounds i true) (m ||| 1 <<< i) := by
  refine ⟨by simpa using h.1, fun j hj => ?_⟩
  rw [Nat.testBit_or, testBit_one_shift]
  by_cases e : i = j
  · subst e
    simp
  · rw [getD_set_ne true e, h.2 j hj]
    simp [e]
theorem masks_at (hM : masksB md l M = true) {j : Nat} {o : Oper} (ho : l[j]? = some o) : M[j]? = some (maskOf md l.toArray o) := by
  unfold masksB at hM
  rw [← beq_iff_eq.1 hM, List.getElem?_map, ho]; rfl
theorem dep_bit (o : Oper) (k : Nat) : (depM md o).testBit k = true ↔ ∃ e ∈ o.after, Region.binds md e = true ∧ e.on = k := by
  unfold depM
  rw [testBit_bitsOf]
  simp only [decide_eq_true_eq, List.mem_map, List.mem_filter, Array.mem_toList_iff]
  constructor
  · rintro ⟨e, ⟨h1, h2⟩, h3⟩; exact ⟨e, h1, h2, h3⟩
  · rintro ⟨e, h1, h2, h3⟩; exact ⟨e, ⟨h1, h2⟩, h3⟩
theorem rdy_iff (hM : masksB md l M = true) (hr : RelM l listed m) {j : Nat} (hb : ∀ e o, l[j]? = some o → e ∈ o.after → Region.binds md e = true → e.on < l.length) : j ∈ Region.ready md l.toArray listed ↔ j ∈ rdyL M 0 m := by
  rw [mem_ready, mem_rdyL]
  constructor
  · rintro ⟨h1, o, ho, h2⟩
    have ho' : l[j]? = some o := by simpa using ho
    have hj := (List.getElem?_eq_some_iff.1 ho').1
    refine ⟨_, Nat.zero_le _, by rw [Nat.sub_zero]; exact masks_at hM ho', ?_, sub_bits.2 fun k hk => ?_⟩
    · rw [← hr.2 j hj]; exact h1
    · obtain ⟨e, he, hbi, rfl⟩ := (dep_bit o k).1 hk
      have h3 := h2 e he hbi
      rw [← hr.2 e.on (hb e o ho' he hbi)]
      rcases Nat.lt_or_ge e.on listed.size with h4 | h4
      · simp [h4] at h3 ⊢; exact h3
      · simp [Array.getElem?_eq_none h4]
  · rintro ⟨x, _, hx, h1, h2⟩
    rw [Nat.sub_zero] at hx
    unfold masksB at hM
    rw [← beq_iff_eq.1 hM, List.getElem?_map] at hx
    cases ho : l[j]? with
    | none => rw [ho] at hx; cases hx
    | some o =>
      rw [ho] at hx
      simp only [Option.map_some, Option.some.injEq] at hx
      subst hx
      have hj := (List.getElem?_eq_some_iff.1 ho).1
      refine ⟨by rw [hr.2 j hj]; exact h1, o, by simpa using ho, fun e he hbi => ?_⟩
      have h3 := sub_bits.1 h2 e.on ((dep_bit o e.on).2 ⟨e, he, hbi, rfl⟩)
      have h4 := hb e o ho he hbi
      rw [← hr.2 e.on h4] at h3
      have h5 : e.on < listed.size := by rw [hr.1]; exact h4
      simp [h5] at h3 ⊢; exact h3
theorem apart_of (ops : Array Oper) (x y : Oper) (h : apartM (maskOf md ops x) (maskOf md ops y) = true) : x.apart ops y = true := by
  unfold apartM maskOf at h
  simp only [Bool.and_eq_true] at h
  obtain ⟨⟨h1, h2⟩, h3⟩ := h
  unfold Oper.apart
  rw [Bool.and_eq_true]
  constructor
  · split
    · rename_i d hd
      have hx : (dstM x).testBit d = true := by unfold dstM; rw [testBit_bitsOf, hd]; simp
      have g1 := and_zero h1 d hx
      have g2 := and_zero h2 d hx
      unfold lookM' at g1
      unfold dstM at g2
      rw [testBit_bitsOf] at g1 g2
      simp at g1 g2 ⊢
      exact ⟨g1, g2⟩
    · rfl
  · split
    · rename_i d hd
      have hy : (dstM y).testBit d = true := by unfold dstM; rw [testBit_bitsOf, hd]; simp
      have g1 := and_zero h3 d hy
      unfold lookM' at g1
      rw [testBit_bitsOf] at g1
      simp at g1 ⊢
      exact g1
    · rfl
theorem free_of (hM : masksB md l M = true) (hr : RelM l listed m) {i : Nat} {oi : Oper} (hi : l[i]? = some oi) (h : freeM M i m = true) (j : Nat) (oj : Oper) (hj : l.toArray[j]? = some oj) (hne : j ≠ i) (hun : listed.getD j true = false)
    (hno : ∀ e ∈ oj.after, Region.binds md e = true → e.on ≠ i) : oi.apart l.toArray oj = true := by
  have hj' : l[j]? = some oj := by simpa using hj
  unfold freeM at h
  rw [masks_at hM hi] at h
  simp only at h
  refine apart_of (md := md) _ _ _ (freeL_spec M 0 h j _ (Nat.zero_le _) (by rw [Nat.sub_zero]; exact masks_at hM hj') hne (by rw [← hr.2 j (List.getElem?_eq_some_iff.1 hj').1]; exact hun) ?_)
  cases hd : (maskOf md l.toArray oj).1.testBit i with
  | false => rfl
  | true =>
    obtain ⟨e, he, hb, hon⟩ := (dep_bit oj i).1 hd
    exact absurd hon (hno e he hb)
/-! ### windows -/
/-- Whatever is ahead of d - 1 is waited for by something that comes up to d - 1 at last. -/
def sinkM (M : List Msk) (d : Nat) : Bool := (List.range (d - 1)).all fun i => ((M.drop (i + 1)).take (d - 1 - i)).any fun x => x.1.testBit i
/-- Whatever comes from d on waits for something from d - 1 on that stands ahead of it. -/
def rootL (d : Nat) : List Msk → Nat → Bool
  | [], _ => true
  | x :: M, t => (decide (t < d) || ((x.1 % 2 ^ t) >>> (d - 1) != 0)) && rootL d M (t + 1)
/-- All waits are for operations of the region. -/
def inB' (n : Nat) (M : List Msk) : Bool := M.all fun x => decide (x.1 < 2 ^ n)
def segM (l : List Oper) (M : List Msk) (n : Nat) : List Nat → Nat → Option Nat
  | [], m => some m
  | i :: r, m => if ((l[i]?).map pureOp).getD false && decide (i < n) && (rdyL M 0 m).contains i && freeM M i m then segM l M n r (m ||| 1 <<< i) else none
def planM (l : List Oper) (M : List Msk) (n : Nat) : PlanT → Nat → Option Nat
  | .done last, m => segM l M n last m
  | .one seg i r, m => match segM l M n seg m with
    | none => none
    | some m' => if decide (rdyL M 0 m' = [i]) && decide (i < n) then planM l M n r (m' ||| 1 <<< i) else none
  | .two seg i r j s, m => match segM l M n seg m with
    | none => none
    | some m' => if decide (rdyL M 0 m' = [i, j]) && decide (i < n) && decide (j < n) && decide (cntT r = cntT s) then (match planM l M n r (m' ||| 1 <<< i), planM l M n s (m' ||| 1 <<< j) with
      | some a, some b => if a = b then some a else none
      | _, _ => none) else none
def winsM (l : List Oper) (M : List Msk) : List (Nat × PlanT) → Nat → Nat → Bool
  | [], _, m => decide (m = 2 ^ l.length - 1)
  | (d, p) :: r, c, m => decide (0 < d) && decide (d ≤ l.length) && sinkM M d && rootL d M 0 && decide (cntT p = d - c) && decide (c ≤ d) && (match planM l M d p m with
    | some m' => decide (m' = 2 ^ d - 1) && winsM l M r d m'
    | none => false)
/-- What is walked: at each window the class of what may be turned in it (T). -/
def wpWins (P : Program) (l : List Oper) (Q : Exit → Act → World → Prop) : List (Nat × PlanT) → Act → World → Prop
  | [], a, w => Q .normal a w
  | (_, p) :: r, a, w => ∃ T : Nat → Prop, wpMixT P l (fun w' => ∃ x : OnW T w, w' = x.w) Q (fun a w => wpWins P l Q r a w) p a w

theorem binds_in (hM : masksB md l M = true) (hin : inB' l.length M = true) {j : Nat} (e : Edge) (o : Oper) (ho : l[j]? = some o) (he : e ∈ o.after) (hb : Region.binds md e = true) : e.on < l.length := by
  have h1 := List.all_eq_true.1 hin _ (List.mem_of_getElem? (masks_at hM ho))
  simp only [decide_eq_true_eq] at h1
  have h2 := (dep_bit (md := md) o e.on).2 ⟨e, he, hb, rfl⟩
  rcases Nat.lt_or_ge e.on l.length with h | h
  · exact h
  · have := Nat.testBit_lt_two_pow (x := (maskOf md l.toArray o).1) (i := e.on) (Nat.lt_of_lt_of_le h1 (Nat.pow_le_pow_right (by omega) h))
    rw [show (maskOf md l.toArray o).1 = depM md o from rfl, h2] at this
    cases this
theorem root_at {d : Nat} : ∀ (M : List Msk) (t0 : Nat), rootL d M t0 = true → ∀ t x, t0 ≤ t → M[t - t0]? = some x → d ≤ t → ∃ e, d - 1 ≤ e ∧ e < t ∧ x.1.testBit e = true
  | [], t0, _, t, x, _, h, _ => by simp at h
  | y :: M, t0, h, t, x, ht, hx, hd => by
    unfold rootL at h
    simp only [Bool.and_eq_true, Bool.or_eq_true, decide_eq_true_eq] at h
    by_cases e : t = t0
    · subst e
      simp at hx
      subst hx
      have h1 : ((y.1 % 2 ^ t) >>> (d - 1) != 0) = true := by
        rcases h.1 with h1 | h1
        · omega
        · exact h1
      have h2 : (y.1 % 2 ^ t) >>> (d - 1) ≠ 0 := by simpa using h1
      obtain ⟨q, hq⟩ := Nat.exists_testBit_of_ne_zero h2
      rw [Nat.testBit_shiftRight, Nat.testBit_mod_two_pow] at hq
      simp only [Bool.and_eq_true, decide_eq_true_eq] at hq
      exact ⟨d - 1 + q, by omega, hq.1, hq.2⟩
    · refine root_at M (t0 + 1) h.2 t x (by omega) ?_ hd
      rw [show t - t0 = (t - (t0 + 1)) + 1 by omega, List.getElem?_cons_succ] at hx
      exact hx
theorem sink_at {d i : Nat} (hs : sinkM M d = true) (hi : i < d - 1) : ∃ j x, i < j ∧ j ≤ d - 1 ∧ M[j]? = some x ∧ x.1.testBit i = true := by
  have h1 := List.all_eq_true.1 hs i (List.mem_range.2 hi)
  obtain ⟨x, hx, hb⟩ := List.any_eq_true.1 h1
  obtain ⟨q, hq⟩ := List.mem_iff_getElem?.1 hx
  rw [List.getElem?_take] at hq
  split at hq
  · rename_i hlt
    rw [List.getElem?_drop] at hq
    exact ⟨i + 1 + q, x, by omega, by omega, hq, hb⟩
  · cases hq
theorem win_waits (hM : masksB md l M = true) {d : Nat} (hs : sinkM M d = true) (hc : rootL d M 0 = true) (hd : 0 < d) (listed : Array Bool) (inv : HeadInv md l.toArray d listed) :
    ∀ i, i < d → listed.getD i true = false → ∀ t, d ≤ t → t ∉ Region.ready md l.toArray listed := by
  -- the last of the window is not listed
  have key : ∀ (q i : Nat), d - 1 - i = q → i < d → listed.getD i true = false → listed.getD (d - 1) true = false := by
    intro q
    induction q using Nat.strongRecOn with
    | _ q ih =>
      intro i hq hi hun
      by_cases e : i = d - 1
      · rw [← e]; exact hun
      · obtain ⟨j, x, h1, h2, h3, h4⟩ := sink_at hs (show i < d - 1 by omega)
        have hM' := hM
        unfold masksB at hM'
        rw [← beq_iff_eq.1 hM', List.getElem?_map] at h3
        cases ho : l[j]? with
        | none => rw [ho] at h3; cases h3
        | some o =>
          rw [ho] at h3
          simp only [Option.map_some, Option.some.injEq] at h3
          subst h3
          obtain ⟨ed, he, hb, hon⟩ := (dep_bit o i).1 h4
          have hjl := (List.getElem?_eq_some_iff.1 ho).1
          cases hl : listed.getD j false with
          | true =>
            have h5 := inv.closed j o (by simpa using ho) hl ed he hb
            rw [hon, getD_both hun] at h5
            cases h5
          | false =>
            have hjs : j < listed.size := by rw [inv.size]; simpa using hjl
            exact ih (d - 1 - j) (by omega) j rfl (by omega) (getD_in hjs hl)
  intro i hi hun t ht hr
  have hlast := key _ i rfl hi hun
  obtain ⟨_, o, ho, hall⟩ := mem_ready.1 hr
  have ho' : l[t]? = some o := by simpa using ho
  have htl := (List.getElem?_eq_some_iff.1 ho').1
  obtain ⟨e, h1, h2, h3⟩ := root_at M 0 hc t _ (Nat.zero_le _) (by rw [Nat.sub_zero]; exact masks_at hM ho') ht
  obtain ⟨ed, he, hb, hon⟩ := (dep_bit o e).1 h3
  have h4 := hall ed he hb
  rw [hon] at h4
  by_cases e1 : e = d - 1
  · rw [e1, getD_both hlast] at h4; cases h4
  · have h5 := inv.tail e (by omega) (by simp; omega)
    rw [getD_both h5] at h4; cases h4
theorem headM_first' {n i : Nat} {oi : Oper} {v : Value} {L : Array Bool → Act → World → Prop} (hi : l.toArray[i]? = some oi) (hsel : Region.noSelect l.toArray = true)
    (hQ : ∀ c d v a w, Q (.panic c) (Act.put a d v) w → Q (.panic c) a w)
    (htw : ∀ listed, HeadInv md l.toArray n listed → ∀ i, i < n → listed.getD i true = false → ∀ t, n ≤ t → t ∉ Region.ready md l.toArray listed) (hin : i < n) (hdone : ∀ listed a w, L listed a w → ∀ j ∈ Region.ready md l.toArray listed, n ≤ j)
    (f : Nat) (listed : Array Bool) (a : Act) (w : World) (inv : HeadInv md l.toArray n listed)
      (hfree : ∀ j oj, l.toArray[j]? = some oj → j ≠ i → listed.getD j true = false → (∀ e ∈ oj.after, Region.binds md e = true → e.on ≠ i) → oi.apart l.toArray oj = true)
      (hr : i ∈ Region.ready md l.toArray listed) (hy : YieldsIf P l.toArray S oi v a) (hS : S w) (H : headM P md l.toArray S Q n L f (listed.setIfInBounds i true) (a.put oi.dst v) w) : headM P md l.toArray S Q n L (f + 1) listed a w :=
  headM_first hi (Region.noSelect_spec hsel) (fun c a w h => hQ c _ _ a w h) htw hin hdone f listed a w inv hfree hr hy hS H
theorem segM_headM {n : Nat} {L : Array Bool → Act → World → Prop} (hsel : Region.noSelect l.toArray = true) (hM : masksB md l M = true) (hib : inB' l.length M = true) (hQ : ∀ c d v a w, Q (.panic c) (Act.put a d v) w → Q (.panic c) a w)
    (htw : ∀ listed, HeadInv md l.toArray n listed → ∀ i, i < n → listed.getD i true = false → ∀ t, n ≤ t → t ∉ Region.ready md l.toArray listed) (hdone : ∀ listed a w, L listed a w → ∀ j ∈ Region.ready md l.toArray listed, n ≤ j) :
    ∀ (seg : List Nat) (listed : Array Bool) (m m' : Nat) (f : Nat) (K : Act → Prop) (a : Act) (w : World), HeadInv md l.toArray n listed → RelM l listed m → segM l M n seg m = some m' → S w → wpQuiet P l.toArray S K (pk l seg) a →
      (∀ listed' a', HeadInv md l.toArray n listed' → RelM l listed' m' → K a' → headM P md l.toArray S Q n L f listed' a' w) → headM P md l.toArray S Q n L (seg.length + f) listed a w
  | [], listed, m, m', f, K, a, w, inv, hrel, hB, hS, h, hK => by
    simp only [segM, Option.some.injEq] at hB
    subst hB
    rw [List.length_nil, Nat.zero_add]
    exact hK _ a inv hrel h
  | i :: seg, listed, m, m', f, K, a, w, inv, hrel, hB, hS, h, hK => by
    unfold segM at hB
    split at hB
    · rename_i hc
      simp only [Bool.and_eq_true, decide_eq_true_eq] at hc
      obtain ⟨⟨⟨hp, hin⟩, hr⟩, hf⟩ := hc
      cases ho : l[i]? with
      | none => rw [ho] at hp; simp at hp
      | some o =>
        rw [ho] at hp
        have hp' : pureOp o = true := by simpa using hp
        have ho' : l.toArray[i]? = some o := by simpa using ho
        have hr' : i ∈ Region.ready md l.toArray listed := (rdy_iff hM hrel (fun e o ho he hb => binds_in hM hib e o ho he hb)).2 (by simpa using hr)
        have hst : qOp P l.toArray S i (wpQuiet P l.toArray S K (pk l seg)) a := by
          unfold qOp
          simp only [ho']
          have e : pk l (i :: seg) = o :: pk l seg := by rw [pk_cons, pushAt_eq _ _ _ ho]
          rw [e] at h
          exact h
        obtain ⟨v, hy, hk⟩ := yieldsIn_of_qOp ho' hst
        rw [List.length_cons, show seg.length + 1 + f = (seg.length + f) + 1 by omega]
        exact headM_first' ho' hsel hQ htw hin hdone _ listed a w inv (fun j oj hj hne hun hno => free_of hM hrel ho hf j oj hj hne hun hno) hr' (yieldsIf_of_in hp' hy) hS
          (segM_headM hsel hM hib hQ htw hdone seg _ _ m' f K _ w (inv.set hr' hin) (hrel.set i) hB hS hk hK)
    · cases hB
theorem planM_headM {n : Nat} {T : Act → World → Prop} {L : Array Bool → Act → World → Prop} {mE : Nat} (hsel : Region.noSelect l.toArray = true) (hM : masksB md l M = true) (hib : inB' l.length M = true) (hQ : ∀ c d v a w, Q (.panic c) (Act.put a d v) w → Q (.panic c) a w)
    (htw : ∀ listed, HeadInv md l.toArray n listed → ∀ i, i < n → listed.getD i true = false → ∀ t, n ≤ t → t ∉ Region.ready md l.toArray listed) (hdone : ∀ listed a w, L listed a w → ∀ j ∈ Region.ready md l.toArray listed, n ≤ j)
    (hT : ∀ listed a w, HeadInv md l.toArray n listed → RelM l listed mE → T a w → L listed a w) :
    ∀ (plan : PlanT) (listed : Array Bool) (m : Nat) (a : Act) (w : World), HeadInv md l.toArray n listed → RelM l listed m → planM l M n plan m = some mE → S w →
      wpMixT P l S Q T plan a w → headM P md l.toArray S Q n L (cntT plan) listed a w
  | .done last, listed, m, a, w, inv, hrel, hB, hS, h => by
    have := segM_headM (P := P) (S := S) (Q := Q) (L := L) hsel hM hib hQ htw hdone last listed m mE 0 _ a w inv hrel hB hS h (fun listed' a' inv' hrel' h' => hT _ _ _ inv' hrel' h')
    simpa [cntT] using this
  | .one seg i r, listed, m, a, w, inv, hrel, hB, hS, h => by
    unfold planM at hB
    split at hB
    · cases hB
    · rename_i m' hm'
      split at hB
      · rename_i hc
        simp only [Bool.and_eq_true, decide_eq_true_eq] at hc
        obtain ⟨hr, hin⟩ := hc
        have := segM_headM (P := P) (S := S) (Q := Q) (L := L) hsel hM hib hQ htw hdone seg listed m m' (1 + cntT r) _ a w inv hrel hm' hS h (fun listed' a' inv' hrel' h' => by
          have hiff := fun j => rdy_iff (j := j) hM hrel' (fun e o ho he hb => binds_in hM hib e o ho he hb)
          rw [Nat.add_comm 1]
          have hi : i ∈ Region.ready md l.toArray listed' := (hiff i).2 (by rw [hr]; simp)
          refine ⟨fun h0 => by (rw [h0] at hi; cases hi), fun j hj => ?_⟩
          have hji : j = i := by
            have := (hiff j).1 hj
            rw [hr] at this
            simpa using this
          subst hji
          refine ⟨hin, ?_⟩
          obtain ⟨_, oj, hoj, _⟩ := mem_ready.1 hj
          have e : pk l [j] = [oj] := by
            have : l[j]? = some oj := by simpa using hoj
            rw [pk_cons, pushAt_eq _ _ _ this]; rfl
          rw [e] at h'
          exact wpOp_mono (fun a'' w'' h3 => ⟨h3.1, planM_headM hsel hM hib hQ htw hdone hT r _ _ a'' w'' (inv'.set hj hin) (hrel'.set j) hB h3.1 h3.2⟩) (wpOp_of_list hoj h'))
        simp only [cntT]
        rwa [show seg.length + 1 + cntT r = seg.length + (1 + cntT r) by omega]
      · cases hB
  | .two seg i r j s, listed, m, a, w, inv, hrel, hB, hS, h => by
    unfold planM at hB
    split at hB
    · cases hB
    · rename_i m' hm'
      split at hB
      · rename_i hc
        simp only [Bool.and_eq_true, decide_eq_true_eq] at hc
        obtain ⟨⟨⟨hr, hin⟩, hjn⟩, hcnt⟩ := hc
        split at hB
        · rename_i x y hx hy
          split at hB
          · rename_i hxy
            subst hxy
            simp only [Option.some.injEq] at hB
            subst hB
            have := segM_headM (P := P) (S := S) (Q := Q) (L := L) hsel hM hib hQ htw hdone seg listed m m' (1 + cntT r) _ a w inv hrel hm' hS h (fun listed' a' inv' hrel' h' => by
              have hiff := fun j => rdy_iff (j := j) hM hrel' (fun e o ho he hb => binds_in hM hib e o ho he hb)
              rw [Nat.add_comm 1]
              have hi : i ∈ Region.ready md l.toArray listed' := (hiff i).2 (by rw [hr]; simp)
              refine ⟨fun h0 => by (rw [h0] at hi; cases hi), fun t ht => ?_⟩
              have hti : t = i ∨ t = j := by
                have := (hiff t).1 ht
                rw [hr] at this
                simpa using this
              obtain ⟨_, ot, hot, _⟩ := mem_ready.1 ht
              have e : pk l [t] = [ot] := by
                have : l[t]? = some ot := by simpa using hot
                rw [pk_cons, pushAt_eq _ _ _ this]; rfl
              rcases hti with rfl | rfl
              · refine ⟨hin, ?_⟩
                have h1 := h'.1
                rw [e] at h1
                exact wpOp_mono (fun a'' w'' h3 => ⟨h3.1, planM_headM hsel hM hib hQ htw hdone hT r _ _ a'' w'' (inv'.set ht hin) (hrel'.set t) hx h3.1 h3.2⟩) (wpOp_of_list hot h1)
              · refine ⟨hjn, ?_⟩
                have h1 := h'.2
                rw [e] at h1
                rw [hcnt]
                exact wpOp_mono (fun a'' w'' h3 => ⟨h3.1, planM_headM hsel hM hib hQ htw hdone hT s _ _ a'' w'' (inv'.set ht hjn) (hrel'.set t) hy h3.1 h3.2⟩) (wpOp_of_list hot h1))
            simp only [cntT]
            rwa [show seg.length + 1 + cntT r = seg.length + (1 + cntT r) by omega]
          · cases hB
        · cases hB
      · cases hB
theorem full_bits {d j : Nat} (h : j < d) : (2 ^ d - 1).testBit j = true := by
  rw [Nat.testBit_two_pow_sub_one]; simpa using h
theorem wins_any (hsel : Region.noSelect l.toArray = true) (hM : masksB md l M = true) (hib : inB' l.length M = true) (hQ : ∀ c d v a w, Q (.panic c) (Act.put a d v) w → Q (.panic c) a w) :
    ∀ (ws : List (Nat × PlanT)) (c m : Nat) (listed : Array Bool) (a : Act) (w : World), HeadInv md l.toArray c listed → RelM l listed m → c ≤ l.length → winsM l M ws c m = true → wpWins P l Q ws a w →
      wpAny P md l.toArray Q (l.length - c) listed a w
  | [], c, m, listed, a, w, inv, hrel, hcl, hB, h => by
    simp only [winsM, decide_eq_true_eq] at hB
    have hemp : Region.ready md l.toArray listed = [] := by
      apply List.eq_nil_iff_forall_not_mem.2
      intro j hj
      obtain ⟨h1, o, ho, _⟩ := mem_ready.1 hj
      have hjl : j < l.length := by have := (Array.getElem?_eq_some_iff.1 ho).1; simpa using this
      rw [hrel.2 j hjl, hB, full_bits hjl] at h1
      cases h1
    cases hn : l.length - c with
    | zero => exact ⟨hemp, h⟩
    | succ k => exact ⟨fun _ => h, fun i hi => by rw [hemp] at hi; cases hi⟩
  | (d, p) :: r, c, m, listed, a, w, inv, hrel, hcl, hB, h => by
    unfold winsM at hB
    simp only [Bool.and_eq_true, decide_eq_true_eq] at hB
    obtain ⟨⟨⟨⟨⟨⟨hd0, hdl⟩, hs⟩, hr⟩, hcnt⟩, hcd⟩, hB⟩ := hB
    split at hB
    · rename_i m' hm'
      simp only [Bool.and_eq_true, decide_eq_true_eq] at hB
      obtain ⟨hfull, hB⟩ := hB
      obtain ⟨T, h⟩ := h
      have htw := fun listed inv => win_waits hM hs hr hd0 listed inv
      have inv' : HeadInv md l.toArray d listed := ⟨inv.size, inv.closed, fun t ht htl => inv.tail t (by omega) htl⟩
      have H := planM_headM (S := fun w' => ∃ x : OnW T w, w' = x.w) (L := fun listed a w => HeadInv md l.toArray d listed ∧ RelM l listed (2 ^ d - 1) ∧ wpWins P l Q r a w) hsel hM hib hQ htw
        (fun listed a w hL j hj => by
          obtain ⟨h1, o, ho, _⟩ := mem_ready.1 hj
          rcases Nat.lt_or_ge j d with h2 | h2
          · rw [hL.2.1.2 j (by omega), full_bits h2] at h1; cases h1
          · exact h2)
        (fun listed a w i1 i2 i3 => ⟨i1, i2, i3⟩) p listed m a w inv' hrel (by rw [hm', hfull]) ⟨⟨w, Only.refl T w⟩, rfl⟩ h
      have := any_of_headM (Q := Q) (g := l.length - d) (fun listed a w hL => wins_any hsel hM hib hQ r d (2 ^ d - 1) listed a w hL.1 hL.2.1 hdl (by rw [← hfull]; exact hB) hL.2.2) _ _ _ _ H
      rw [hcnt] at this
      rwa [show d - c + (l.length - d) = l.length - c by omega] at this
    · cases hB
end
/-- What the kernel reckons once. -/
def winsAll (l : List Oper) (M : List Msk) (ws : List (Nat × PlanT)) : Bool := Region.noSelect l.toArray && (masksB .any l M && (inB' l.length M && winsM l M ws 0 0))
theorem wp_region_wins {P : Program} {id : Nat} {Q : Exit → Act → World → Prop} {a : Act} {w : World} {l : List Oper} (M : List Msk) (ws : List (Nat × PlanT)) (hm : P.follows .mixedOrders = true) (hQ : ∀ c d v a w, Q (.panic c) (Act.put a d v) w → Q (.panic c) a w)
    (hB : winsAll l M ws = true) (h : wpWins P l Q ws a w.drew) : (Code.region id l.toArray true).wp P Q a w := by
  simp only [winsAll, Bool.and_eq_true] at hB
  obtain ⟨hsel, hM, hib, hw⟩ := hB
  refine wp_region_any hm ?_
  have inv0 : HeadInv .any l.toArray 0 (Array.replicate l.length false) :=
    ⟨by simp, fun j oj _ hl => (by rw [getD_replicate_false] at hl; cases hl), fun t _ ht => getD_in (by simpa using ht) (getD_replicate_false _ _)⟩
  have rel0 : RelM l (Array.replicate l.length false) 0 := ⟨by simp, fun i hi => by simp [hi]⟩
  have := wins_any hsel hM hib hQ ws 0 0 _ a w.drew inv0 rel0 (Nat.zero_le _) hw h
  simpa using this
theorem wins_next {P : Program} {l : List Oper} {Q : Exit → Act → World → Prop} {d : Nat} {p : PlanT} {r : List (Nat × PlanT)} {a : Act} {w : World} (T : Nat → Prop)
    (h : wpMixT P l (fun w' => ∃ x : OnW T w, w' = x.w) Q (fun a w => wpWins P l Q r a w) p a w) : wpWins P l Q ((d, p) :: r) a w := ⟨T, h⟩
theorem wins_end {P : Program} {l : List Oper} {Q : Exit → Act → World → Prop} {a : Act} {w : World} (h : Q .normal a w) : wpWins P l Q [] a w := h
end Go.Proofs.YthjkdeocdhdkaaaGreat
/- copyistlaw18.OversScript returns true. -/
namespace Go.Proofs.YthjkdeocdhdkaaaGreat
open Go.RowKit
set_option linter.unusedVariables false
set_option linter.unusedSimpArgs false
def mskQ : List Msk := [(0, 1180591620717411303424, 262144), (0, 2361183241434822606848, 1048576), (3, 4722366482869645213696, 3541774862152233910272), (4, 9444732965739290427392, 4722366482869645213696), (8, 18889465931478580854784, 9444732965739290558464), (8, 37778931862957161709568, 9444732965739290951680), (56, 75557863725914323419136, 66113130760175032991744), (72, 151115727451828646838272, 85002596691653613846528), (136, 302231454903657293676544, 160560460417567937265664), (320, 604462909807314587353088, 302231454903657293676544), (512, 1208925819614629174706176, 604462909807314587361280), (1536, 2417851639229258349412352, 1813388729421943762059264), (512, 4835703278458516698824704, 604462909807314587369472), (6656, 9671406556917033397649408, 5440166188265831286177792), (10752, 19342813113834066795298816, 12693721105953606334414848), (16896, 38685626227668133590597632, 19947276023641381382651904), (33280, 77371252455336267181195264, 39290089137475448177950720), (81920, 154742504910672534362390528, 77371252455336267181195264), (131072, 309485009821345068724781056, 154742504910672534362398720), (393216, 618970019642690137449562112, 464227514732017603087171584), (131072, 1237940039285380274899124224, 154742504910672534362406912), (1179648, 2475880078570760549798248448, 1392682544196052809261514752), (2228224, 4951760157141521099596496896, 2630622583481433084160638976), (4325376, 9903520314283042199192993792, 5106502662052193633958887424), (8519680, 19807040628566084398385987584, 10058262819193714733555384320), (17432576, 39614081257132168796771975168, 20580753153119447070197940224), (33685504, 79228162514264337593543950336, 39768823762042841331134365696), (67633152, 158456325028528675187087900672, 79228162514264337593543950336), (134217728, 316912650057057350374175801344, 158456325028528675187087908864), (134217728, 633825300114114700748351602688, 158456325028528675187087966208), (671088640, 1267650600228229401496703205376, 792281625142643375935439503360), (1476395008, 2535301200456458802993406410752, 1743019575313815427057966907392), (134217728, 5070602400912917605986812821504, 158456325028528675187087917056), (134217728, 10141204801825835211973625643008, 158456325028528675187087966208), (8724152320, 20282409603651670423947251286016, 10299661126854363887160713543680), (23756537856, 40564819207303340847894502572032, 25511468329593116705121152008192), (36641439744, 81129638414606681695789005144064, 43258576732788328326074996883456), (68853694464, 162259276829213363391578010288128, 81288094739635210370976093044736), (137573171200, 324518553658426726783156020576256, 162417733154241892066765098188800), (343597383680, 649037107316853453566312041152512, 324518553658426726783156020576256), (549755813888, 1298074214633706907132624082305024, 649037107316853453566312041160704), (549755813888, 2596148429267413814265248164610048, 649037107316853453566312041218048), (2748779069440, 5192296858534827628530496329220096, 3245185536584267267831560205762560), (549755813888, 10384593717069655257060992658440192, 649037107316853453566312041218048), (9345848836096, 20769187434139310514121985316880384, 11033630824386508710627304699592704), (23639499997184, 41538374868278621028243970633760768, 27908595614624698503351417769558016), (549755813888, 83076749736557242056487941267521536, 649037107316853453566312041168896), (549755813888, 166153499473114484112975882535043072, 649037107316853453566312041218048), (141287244169216, 332306998946228968225951765070086144, 166802536580431337566542194576195584), (549755813888, 664613997892457936451903530140172288, 649037107316853453566312041218048), (563499709235200, 1329227995784915872903807060280344576, 665263034999774789905469842181324800), (1513477755633664, 2658455991569831745807614120560689152, 1745260781575018936639813078659104768), (2287533941587968, 5316911983139663491615228241121378304, 2700643403545427220289424403235602432), (4504149383184384, 10633823966279326983230456482242756608, 5317561020246980345068794553162530816), (9007749010554880, 21267647932558653966460912964485513216, 10634473003386643836684022794283909120), (22517998136852480, 42535295865117307932921825928971026432, 21267647932558653966460912964485513216), (36028797018963968, 85070591730234615865843651857942052864, 42535295865117307932921825928971034624), (36028797018963968, 170141183460469231731687303715884105728, 42535295865117307932921825928971091968), (180143985094819840, 340282366920938463463374607431768211456, 212676479325586539664609129644855132160), (36028797018963968, 680564733841876926926749214863536422912, 42535295865117307932921825928971091968), (612489549322387456, 1361129467683753853853498429727072845824, 723100029706994234859671040792507449344), (1549238271815450624, 2722258935367507707706996859454145691648, 1829017722200044241115638514945754136576), (36028797018963968, 5444517870735015415413993718908291383296, 42535295865117307932921825928971042816), (36028797018963968, 10889035741470030830827987437816582766592, 42535295865117307932921825928971091968), (9259400833873739776, 21778071482940061661655974875633165533184, 10931571037335148138760909263745553793024), (36028797018963968, 43556142965880123323311949751266331066368, 42535295865117307932921825928971091968), (36929516944438067200, 87112285931760246646623899502532662132736, 43598678261745240631244871577195302092800), (99187278193207803904, 174224571863520493293247799005065324265472, 114377410581300441031626789923003090075648), (149915824395909070848, 348449143727040986586495598010130648530944, 176989366094753118308887717690448440983552), (295183933976371789824, 696898287454081973172991196020261297061888, 348491679022906103894428519836059619557376)]
set_option maxRecDepth 100000 in
set_option maxHeartbeats 8000000 in
theorem script_some (pr ev : Int) (A : Option Addr) (cap : Nat) (l : List Act18) (f t nm : Int) (w : World) (hl : l.length ≤ 60) (hA : RSl encA w A l) :
    Calls Tryz.prog 3 #[.int .i64 pr, .int .i64 ev, .slice A l.length cap, .int .i64 f, .int .i64 t, .int .i64 nm] w fun e w' => e = .returned (.bool true) ∧ Below w.heap.size w w' := by
  have HA := Lib.hid hA
  clear hA
  have hl' : (l.length : Int) ≤ 60 := by omega
  go_enter Tryz.func3, Tryz.ntmps3
  go_wp2_with fail
  refine (lives_true w).mono ?_
  rintro e w1 ⟨rfl, hB1⟩
  go_wp2_with fail
  refine (s_new pr ev w1).mono ?_
  rintro e w2 ⟨ob, rfl, s2, hB2⟩
  have HS2 := Lib.hid s2
  have HB1 := Lib.hid hB1
  have HB2 := Lib.hid hB2
  clear s2 hB1 hB2
  go_wp2_with fail
  refine (r_new pr ev w2).mono ?_
  rintro e w3 ⟨rp, rfl, s3, hB3⟩
  have HST := Lib.hid (Scr.start HB1.out HS2.out HB2.out s3 hB3)
  clear s3 hB3 HS2 HB1 HB2
  go_wp2_with fail
  go_loopw [15] (fun vi wz => ∃ (j : Nat) (D : List OverD) (nx : Int) (So Sr : Nat → Prop), j ≤ l.length ∧ vi = .int .i64 j ∧ Scr w wz ob rp pr ev D nx j So Sr) (fun vi _ => l.length - (intOf vi).toNat)
  case atStart => exact ⟨0, [], 0, _, _, by omega, rfl, HST.out⟩
  case round =>
    clear HST
    obtain ⟨j, D, nx, So, Sr, hj, rfl, hst⟩ := hrel
    obtain ⟨wz, rfl⟩ : ∃ x, x = wr := ⟨_, rfl⟩
    by_cases hlt : j < l.length
    · obtain ⟨⟨ki, id, af, at_, anm, an, afr, are, avk, avn⟩, hact⟩ : ∃ x, l[j]? = some x := ⟨_, List.getElem?_eq_getElem hlt⟩
      obtain ⟨g, o, hAe, hg, hcs⟩ := (HA.out.up hst.bel).at_ eltA hact
      have k0 := hcs 0 _ rfl
      have k1 := hcs 1 _ rfl
      have k2 := hcs 2 _ rfl
      have k3 := hcs 3 _ rfl
      have k4 := hcs 4 _ rfl
      have k5 := hcs 5 _ rfl
      have k6 := hcs 6 _ rfl
      have k7 := hcs 7 _ rfl
      have k8 := hcs 8 _ rfl
      have k9 := hcs 9 _ rfl
      simp only [← Nat.add_assoc, Nat.add_zero] at k0 k1 k2 k3 k4 k5 k6 k7 k8 k9
      have hlt' : (j : Int) < l.length := by omega
      have HDO := Lib.hid (scr_do (hst.up (below1 wz (.cells (encA ⟨ki, id, af, at_, anm, an, afr, are, avk, avn⟩).toArray 31))) ⟨ki, id, af, at_, anm, an, afr, are, avk, avn⟩ (by omega))
      have HQO : Hid (¬ So wz.heap.size) := Lib.hid fun hk => by have := hst.uo _ hk; omega
      have HQR : Hid (¬ Sr wz.heap.size) := Lib.hid fun hk => by have := hst.ur _ hk; omega
      have HLI := Lib.hid (ids_len hst.wf ev ⟨ki, id, af, at_, anm, an, afr, are, avk, avn⟩)
      have hjj : j ≤ 1000000 := by omega
      clear hact hcs hst hg
      subst hAe
      go_wp2_with fail
      refine HDO.out.mono ?_
      rintro e w3 ⟨gv, S1, rfl, hm, ho⟩
      have hx := (ho.block wz.heap.size (by simp) HQO.out).trans (MapKept.heap_alloc wz (.cells (encA ⟨ki, id, af, at_, anm, an, afr, are, avk, avn⟩).toArray 31)).1
      have hq3 : wz.heap.size < w3.heap.size := by have := ho.size; simp at this; omega
      have HM := Lib.hid hm
      have HX := Lib.hid hx
      have c0 := cell_kind hx 0 _ rfl
      have c1 := cell_kind hx 1 _ rfl
      have c2 := cell_kind hx 2 _ rfl
      have c3 := cell_kind hx 3 _ rfl
      have c4 := cell_kind hx 4 _ rfl
      have c5 := cell_kind hx 5 _ rfl
      have c6 := cell_kind hx 6 _ rfl
      have c7 := cell_kind hx 7 _ rfl
      have c8 := cell_kind hx 8 _ rfl
      have c9 := cell_kind hx 9 _ rfl
      clear k0 k1 k2 k3 k4 k5 k6 k7 k8 k9 hm ho hx HDO HQO
      go_wp2_with fail
      refine (scr_does ⟨ki, id, af, at_, anm, an, afr, are, avk, avn⟩ HM.out hjj).mono ?_
      rintro e w4 ⟨gv2, So2, Sr2, rfl, hs, hg1, hg2, ho⟩
      have hx := (ho.block wz.heap.size hq3 HQR.out).trans HX.out
      have hq4 : wz.heap.size < w4.heap.size := by have := ho.size; omega
      clear HX HM
      generalize doR ev D nx ⟨ki, id, af, at_, anm, an, afr, are, avk, avn⟩ = R at *
      have HLI' : Hid (R.ids.length ≤ 1000000) := Lib.hid (by have := HLI.out; omega)
      have HS := Lib.hid hs
      have HX := Lib.hid hx
      have HG1 := Lib.hid hg1
      have HG2 := Lib.hid hg2
      clear hs hx hg1 hg2 ho c0 c1 c2 c3 c4 c5 c6 c7 c8 c9 HLI HQR hq3
      have hee : (R.err != R.err) = false := by simp
      go_wp2_with fail
      have bd := (Below.refl w4.heap.size w4).drew
      have HS_ := Lib.hid (HS.out.up bd)
      have HX_ := Lib.hid ((bd.block _ (Array.getElem?_eq_some_iff.1 HX.out).1).trans HX.out)
      have HG1_ := Lib.hid (HG1.out.up bd)
      have HG2_ := Lib.hid (HG2.out.up bd)
      clear HS HX HG1 HG2
      have HS := HS_
      clear HS_
      have HX := HX_
      clear HX_
      have HG1 := HG1_
      clear HG1_
      have HG2 := HG2_
      clear HG2_
      obtain ⟨wd, hwd⟩ : ∃ x, x = w4.drew := ⟨_, rfl⟩
      rw [← hwd] at HS HX HG1 HG2
      try simp only [List.append_eq, List.cons_append, List.nil_append]
      refine wp_region_wins mskQ [(7, .one [0, 1, 2, 3, 4, 5] 6 (.done [])),  (14, .one [7, 8, 9, 10, 12] 11 (.one [] 13 (.done []))),  (15, .one [] 14 (.done [])),  (26, .one [15, 16, 17, 18, 20, 21, 22, 23, 24] 19 (.done [25])),  (36, .one [26, 27, 28, 29, 30, 32, 33, 34] 31 (.one [] 35 (.done []))),  (37, .one [] 36 (.done [])),  (52, .one [37, 38, 39, 40, 41, 42, 43, 44, 46, 47, 48, 49, 50] 45 (.one [] 51 (.done []))),  (53, .one [] 52 (.done [])),  (68, .one [53, 54, 55, 56, 57, 58, 59, 60, 62, 63, 64, 65, 66] 61 (.one [] 67 (.done []))),  (70, .done [68, 69])] (by kernel_rfl) (fun c d v a w h => by cases d <;> exact h) (by kernel_rfl) ?_
      rw [← hwd]
      clear hwd bd
      refine wins_next (fun _ => False) ?_
      simp only [wpMixT, pk_nil, pk_cons, pushAt_zero, pushAt_succ, List.drop_succ_cons, List.drop_zero]
      repeat (go_big_quiet_step (fail))
      refine wpQuiet_nil ?_
      go_wp2_with fail
      refine (same_sl HG1.out HG2.out HLI'.out).mono ?_
      rintro e w5 ⟨rfl, b⟩
      have HS_ := Lib.hid (HS.out.up b)
      have HX_ := Lib.hid ((b.block _ (Array.getElem?_eq_some_iff.1 HX.out).1).trans HX.out)
      have HG1_ := Lib.hid (HG1.out.up b)
      have HG2_ := Lib.hid (HG2.out.up b)
      clear HS HX HG1 HG2
      have HS := HS_
      clear HS_
      have HX := HX_
      clear HX_
      have HG1 := HG1_
      clear HG1_
      have HG2 := HG2_
      clear HG2_
      have BT := Lib.hid b
      clear b
      go_wp2_with fail
      refine thenQ_normal ⟨⟨⟨_, Only.of_below BT.out⟩, rfl⟩, ?_⟩
      refine wpQuiet_nil ?_
      clear BT
      clear HG1 HG2 HLI' hee
      refine wins_next (fun _ => False) ?_
      simp only [wpMixT, pk_nil, pk_cons, pushAt_zero, pushAt_succ, List.drop_succ_cons, List.drop_zero]
      repeat (go_big_quiet_step (fail))
      refine wpQuiet_nil ?_
      go_wp2_with fail
      refine (st_all HS.out.os HS.out.wf).mono ?_
      rintro e w6 ⟨va, Ma, rfl, ha, b⟩
      have HAA := Lib.hid ha
      clear ha
      have HS_ := Lib.hid (HS.out.up b)
      have HX_ := Lib.hid ((b.block _ (Array.getElem?_eq_some_iff.1 HX.out).1).trans HX.out)
      clear HS HX
      have HS := HS_
      clear HS_
      have HX := HX_
      clear HX_
      have BT := Lib.hid b
      clear b
      go_wp2_with fail
      refine thenQ_normal ⟨⟨⟨_, Only.of_below BT.out⟩, rfl⟩, ?_⟩
      refine wpQuiet_nil ?_
      go_wp2_with fail
      refine (st_rall HS.out.rs HS.out.wf).mono ?_
      rintro e w7 ⟨vb, Mb, rfl, ha, b⟩
      have HAB := Lib.hid ha
      clear ha
      have HS_ := Lib.hid (HS.out.up b)
      have HX_ := Lib.hid ((b.block _ (Array.getElem?_eq_some_iff.1 HX.out).1).trans HX.out)
      have HAA_ := Lib.hid (HAA.out.up b)
      clear HS HX HAA
      have HS := HS_
      clear HS_
      have HX := HX_
      clear HX_
      have HAA := HAA_
      clear HAA_
      have BT2 := Lib.hid (up2 BT.out b)
      clear BT
      have BT := BT2
      clear BT2
      clear b
      go_wp2_with fail
      refine thenQ_normal ⟨⟨⟨_, Only.of_below BT.out⟩, rfl⟩, ?_⟩
      refine wpQuiet_nil ?_
      clear BT
      refine wins_next (fun _ => False) ?_
      simp only [wpMixT, pk_nil, pk_cons, pushAt_zero, pushAt_succ, List.drop_succ_cons, List.drop_zero]
      repeat (go_big_quiet_step (fail))
      refine wpQuiet_nil ?_
      go_wp2_with fail
      refine (all_same HS.out.wf HAA.out HAB.out).mono ?_
      rintro e w8 ⟨rfl, b⟩
      have HS_ := Lib.hid (HS.out.up b)
      have HX_ := Lib.hid ((b.block _ (Array.getElem?_eq_some_iff.1 HX.out).1).trans HX.out)
      have HAA_ := Lib.hid (HAA.out.up b)
      have HAB_ := Lib.hid (HAB.out.up b)
      clear HS HX HAA HAB
      have HS := HS_
      clear HS_
      have HX := HX_
      clear HX_
      have HAA := HAA_
      clear HAA_
      have HAB := HAB_
      clear HAB_
      have BT := Lib.hid b
      clear b
      go_wp2_with fail
      refine thenQ_normal ⟨⟨⟨_, Only.of_below BT.out⟩, rfl⟩, ?_⟩
      refine wpQuiet_nil ?_
      clear BT
      clear HAA HAB
      obtain ⟨Ap, cp, hcpl⟩ := HS.out.rs.len
      have hrpl := HS.out.rs.plt
      have cpl : ∀ x : OnW (fun _ => False) w8, x.w.cell? ⟨rp, 0, none⟩ = some (.slice Ap R.D.length cp) := fun x => (World.cell?_of_block (a := ⟨rp, 0, none⟩) (x.on.block rp hrpl (fun h => h))).trans hcpl
      have hnn : ((R.D.length : Int) != (R.D.length : Int)) = false := by simp
      refine wins_next (fun _ => False) ?_
      simp only [wpMixT, pk_nil, pk_cons, pushAt_zero, pushAt_succ, List.drop_succ_cons, List.drop_zero]
      repeat (go_big_quiet_step (fail))
      refine wpQuiet_nil ?_
      go_wp2_with fail
      refine (s_many HS.out.os).mono ?_
      rintro e w9 ⟨rfl, rfl⟩
      go_wp2_with fail
      refine thenQ_normal ⟨⟨⟨_, Only.of_below (Below.refl _ _)⟩, rfl⟩, ?_⟩
      repeat (go_big_quiet_step (fail))
      refine wpQuiet_nil ?_
      clear cpl hnn hcpl hrpl
      have c2 : ∀ x : OnW (fun _ => False) w8, x.w.cell? ⟨wz.heap.size, 2, none⟩ = some (.int .i64 af) := fun x => cell_kind ((x.on.block wz.heap.size (Array.getElem?_eq_some_iff.1 HX.out).1 (fun h => h)).trans HX.out) 2 _ rfl
      refine wins_next (fun _ => False) ?_
      simp only [wpMixT, pk_nil, pk_cons, pushAt_zero, pushAt_succ, List.drop_succ_cons, List.drop_zero]
      repeat (go_big_quiet_step (fail))
      refine wpQuiet_nil ?_
      go_wp2_with fail
      refine (s_at HS.out.os HS.out.wf af).mono ?_
      rintro e w10 ⟨va, rfl, hv, b⟩
      have HV := Lib.hid (SlI.of hv)
      clear hv
      have HS_ := Lib.hid (HS.out.up b)
      have HX_ := Lib.hid ((b.block _ (Array.getElem?_eq_some_iff.1 HX.out).1).trans HX.out)
      clear HS HX
      have HS := HS_
      clear HS_
      have HX := HX_
      clear HX_
      have BT := Lib.hid b
      clear b
      go_wp2_with fail
      refine thenQ_normal ⟨⟨⟨_, Only.of_below BT.out⟩, rfl⟩, ?_⟩
      refine wpQuiet_nil ?_
      go_wp2_with fail
      refine (s_rat HS.out.rs HS.out.wf af).mono ?_
      rintro e w11 ⟨vb, rfl, hv, b⟩
      have HV2 := Lib.hid (SlI.of hv)
      clear hv
      have HS_ := Lib.hid (HS.out.up b)
      have HX_ := Lib.hid ((b.block _ (Array.getElem?_eq_some_iff.1 HX.out).1).trans HX.out)
      have HV_ := Lib.hid (HV.out.up b)
      clear HS HX HV
      have HS := HS_
      clear HS_
      have HX := HX_
      clear HX_
      have HV := HV_
      clear HV_
      have BT2 := Lib.hid (up2 BT.out b)
      clear BT
      have BT := BT2
      clear BT2
      clear b
      go_wp2_with fail
      refine thenQ_normal ⟨⟨⟨_, Only.of_below BT.out⟩, rfl⟩, ?_⟩
      refine wpQuiet_nil ?_
      clear BT
      clear c2
      refine wins_next (fun _ => False) ?_
      simp only [wpMixT, pk_nil, pk_cons, pushAt_zero, pushAt_succ, List.drop_succ_cons, List.drop_zero]
      repeat (go_big_quiet_step (fail))
      refine wpQuiet_nil ?_
      go_wp2_with fail
      refine (same_sl HV.out HV2.out (atI_len' HS.out.wf af)).mono ?_
      rintro e w12 ⟨rfl, b⟩
      have HS_ := Lib.hid (HS.out.up b)
      have HX_ := Lib.hid ((b.block _ (Array.getElem?_eq_some_iff.1 HX.out).1).trans HX.out)
      have HV_ := Lib.hid (HV.out.up b)
      have HV2_ := Lib.hid (HV2.out.up b)
      clear HS HX HV HV2
      have HS := HS_
      clear HS_
      have HX := HX_
      clear HX_
      have HV := HV_
      clear HV_
      have HV2 := HV2_
      clear HV2_
      have BT := Lib.hid b
      clear b
      go_wp2_with fail
      refine thenQ_normal ⟨⟨⟨_, Only.of_below BT.out⟩, rfl⟩, ?_⟩
      refine wpQuiet_nil ?_
      clear BT
      clear HV HV2
      have c2 : ∀ x : OnW (fun _ => False) w12, x.w.cell? ⟨wz.heap.size, 2, none⟩ = some (.int .i64 af) := fun x => cell_kind ((x.on.block wz.heap.size (Array.getElem?_eq_some_iff.1 HX.out).1 (fun h => h)).trans HX.out) 2 _ rfl
      have c3 : ∀ x : OnW (fun _ => False) w12, x.w.cell? ⟨wz.heap.size, 3, none⟩ = some (.int .i64 at_) := fun x => cell_kind ((x.on.block wz.heap.size (Array.getElem?_eq_some_iff.1 HX.out).1 (fun h => h)).trans HX.out) 3 _ rfl
      refine wins_next (fun _ => False) ?_
      simp only [wpMixT, pk_nil, pk_cons, pushAt_zero, pushAt_succ, List.drop_succ_cons, List.drop_zero]
      repeat (go_big_quiet_step (fail))
      refine wpQuiet_nil ?_
      go_wp2_with fail
      refine (s_in HS.out.os HS.out.wf af at_).mono ?_
      rintro e w13 ⟨va, rfl, hv, b⟩
      have HV := Lib.hid (SlI.of hv)
      clear hv
      have HS_ := Lib.hid (HS.out.up b)
      have HX_ := Lib.hid ((b.block _ (Array.getElem?_eq_some_iff.1 HX.out).1).trans HX.out)
      clear HS HX
      have HS := HS_
      clear HS_
      have HX := HX_
      clear HX_
      have BT := Lib.hid b
      clear b
      go_wp2_with fail
      refine thenQ_normal ⟨⟨⟨_, Only.of_below BT.out⟩, rfl⟩, ?_⟩
      refine wpQuiet_nil ?_
      go_wp2_with fail
      refine (s_rin HS.out.rs HS.out.wf af at_).mono ?_
      rintro e w14 ⟨vb, rfl, hv, b⟩
      have HV2 := Lib.hid (SlI.of hv)
      clear hv
      have HS_ := Lib.hid (HS.out.up b)
      have HX_ := Lib.hid ((b.block _ (Array.getElem?_eq_some_iff.1 HX.out).1).trans HX.out)
      have HV_ := Lib.hid (HV.out.up b)
      clear HS HX HV
      have HS := HS_
      clear HS_
      have HX := HX_
      clear HX_
      have HV := HV_
      clear HV_
      have BT2 := Lib.hid (up2 BT.out b)
      clear BT
      have BT := BT2
      clear BT2
      clear b
      go_wp2_with fail
      refine thenQ_normal ⟨⟨⟨_, Only.of_below BT.out⟩, rfl⟩, ?_⟩
      refine wpQuiet_nil ?_
      clear BT
      clear c2 c3
      refine wins_next (fun _ => False) ?_
      simp only [wpMixT, pk_nil, pk_cons, pushAt_zero, pushAt_succ, List.drop_succ_cons, List.drop_zero]
      repeat (go_big_quiet_step (fail))
      refine wpQuiet_nil ?_
      go_wp2_with fail
      refine (same_sl HV.out HV2.out (inI_len' HS.out.wf af at_)).mono ?_
      rintro e w15 ⟨rfl, b⟩
      have HS_ := Lib.hid (HS.out.up b)
      have HX_ := Lib.hid ((b.block _ (Array.getElem?_eq_some_iff.1 HX.out).1).trans HX.out)
      have HV_ := Lib.hid (HV.out.up b)
      have HV2_ := Lib.hid (HV2.out.up b)
      clear HS HX HV HV2
      have HS := HS_
      clear HS_
      have HX := HX_
      clear HX_
      have HV := HV_
      clear HV_
      have HV2 := HV2_
      clear HV2_
      have BT := Lib.hid b
      clear b
      go_wp2_with fail
      refine thenQ_normal ⟨⟨⟨_, Only.of_below BT.out⟩, rfl⟩, ?_⟩
      refine wpQuiet_nil ?_
      clear BT
      clear HV HV2
      have c2 : ∀ x : OnW (fun _ => False) w15, x.w.cell? ⟨wz.heap.size, 2, none⟩ = some (.int .i64 af) := fun x => cell_kind ((x.on.block wz.heap.size (Array.getElem?_eq_some_iff.1 HX.out).1 (fun h => h)).trans HX.out) 2 _ rfl
      have c3 : ∀ x : OnW (fun _ => False) w15, x.w.cell? ⟨wz.heap.size, 3, none⟩ = some (.int .i64 at_) := fun x => cell_kind ((x.on.block wz.heap.size (Array.getElem?_eq_some_iff.1 HX.out).1 (fun h => h)).trans HX.out) 3 _ rfl
      have hxx : (nextI R.D af at_ != nextI R.D af at_) = false := by simp
      refine wins_next (fun _ => False) ?_
      simp only [wpMixT, pk_nil, pk_cons, pushAt_zero, pushAt_succ, List.drop_succ_cons, List.drop_zero]
      repeat (go_big_quiet_step (fail))
      refine wpQuiet_nil ?_
      go_wp2_with fail
      refine (s_next HS.out.os HS.out.wf af at_).mono ?_
      rintro e w16 ⟨rfl, b⟩
      have HS_ := Lib.hid (HS.out.up b)
      have HX_ := Lib.hid ((b.block _ (Array.getElem?_eq_some_iff.1 HX.out).1).trans HX.out)
      clear HS HX
      have HS := HS_
      clear HS_
      have HX := HX_
      clear HX_
      have BT := Lib.hid b
      clear b
      go_wp2_with fail
      refine thenQ_normal ⟨⟨⟨_, Only.of_below BT.out⟩, rfl⟩, ?_⟩
      refine wpQuiet_nil ?_
      go_wp2_with fail
      refine (s_rnext HS.out.rs HS.out.wf af at_).mono ?_
      rintro e w17 ⟨rfl, rfl⟩
      go_wp2_with fail
      refine thenQ_normal ⟨⟨⟨_, Only.of_below BT.out⟩, rfl⟩, ?_⟩
      refine wpQuiet_nil ?_
      clear BT
      clear c2 c3
      refine wins_next (fun _ => False) ?_
      simp only [wpMixT, pk_nil, pk_cons, pushAt_zero, pushAt_succ, List.drop_succ_cons, List.drop_zero]
      repeat (go_big_quiet_step (fail))
      refine wpQuiet_nil ?_
      refine wins_end ?_
      clear hxx
      have c1 := cell_kind HX.out 1 _ rfl
      have c4 := cell_kind HX.out 4 _ rfl
      obtain ⟨gk, gn, gq, ge⟩ := word_out (getD R.D id anm)
      have HGE := Lib.hid ge
      clear ge
      have HCC := Lib.hid (s_get HS.out.os HS.out.wf id anm)
      rw [HGE.out] at HCC
      go_wp2_with fail
      refine (HCC.out).mono ?_
      rintro e w18 ⟨he, b⟩
      clear HCC
      subst he
      have b2 := up2 b (below1 w18 (.cells #[.int .i64 gk, .int .i64 gn] 29))
      have HS_ := Lib.hid (HS.out.up b2)
      have HX_ := Lib.hid ((b2.block _ (Array.getElem?_eq_some_iff.1 HX.out).1).trans HX.out)
      clear HS HX
      have HS := HS_
      clear HS_
      have HX := HX_
      clear HX_
      have HW1 := Lib.hid (MapKept.heap_alloc w18 (.cells #[.int .i64 gk, .int .i64 gn] 29)).1
      clear b b2
      clear c1 c4
      have c1 := cell_kind HX.out 1 _ rfl
      have c4 := cell_kind HX.out 4 _ rfl
      have HCC := Lib.hid (s_rget HS.out.rs HS.out.wf id anm)
      rw [HGE.out] at HCC
      go_wp2_with fail
      refine (HCC.out).mono ?_
      rintro e w19 ⟨he, b⟩
      clear HCC
      subst he
      have b2 := up2 b (below1 w19 (.cells #[.int .i64 gk, .int .i64 gn] 29))
      have HS_ := Lib.hid (HS.out.up b2)
      have HX_ := Lib.hid ((b2.block _ (Array.getElem?_eq_some_iff.1 HX.out).1).trans HX.out)
      have HW1_ := Lib.hid ((b2.block _ (Array.getElem?_eq_some_iff.1 HW1.out).1).trans HW1.out)
      clear HS HX HW1
      have HS := HS_
      clear HS_
      have HX := HX_
      clear HX_
      have HW1 := HW1_
      clear HW1_
      have HW2 := Lib.hid (MapKept.heap_alloc w19 (.cells #[.int .i64 gk, .int .i64 gn] 29)).1
      clear b b2
      clear c1 c4
      have c1 := cell_kind HX.out 1 _ rfl
      obtain ⟨ef, et, eq, ee⟩ := ends_out (endsD R.D id)
      have HEE := Lib.hid ee
      clear ee
      have HCC := Lib.hid (s_ends HS.out.os HS.out.wf id)
      rw [HEE.out] at HCC
      go_wp2_with fail
      refine (HCC.out).mono ?_
      rintro e w20 ⟨rfl, b⟩
      have HS_ := Lib.hid (HS.out.up b)
      have HX_ := Lib.hid ((b.block _ (Array.getElem?_eq_some_iff.1 HX.out).1).trans HX.out)
      have HW1_ := Lib.hid ((b.block _ (Array.getElem?_eq_some_iff.1 HW1.out).1).trans HW1.out)
      have HW2_ := Lib.hid ((b.block _ (Array.getElem?_eq_some_iff.1 HW2.out).1).trans HW2.out)
      clear HS HX HW1 HW2
      have HS := HS_
      clear HS_
      have HX := HX_
      clear HX_
      have HW1 := HW1_
      clear HW1_
      have HW2 := HW2_
      clear HW2_
      clear b
      clear HCC
      clear c1
      have c1 := cell_kind HX.out 1 _ rfl
      have HCC := Lib.hid (s_rends HS.out.rs HS.out.wf id)
      rw [HEE.out] at HCC
      go_wp2_with fail
      refine (HCC.out).mono ?_
      rintro e w21 ⟨rfl, b⟩
      have HS_ := Lib.hid (HS.out.up b)
      have HX_ := Lib.hid ((b.block _ (Array.getElem?_eq_some_iff.1 HX.out).1).trans HX.out)
      have HW1_ := Lib.hid ((b.block _ (Array.getElem?_eq_some_iff.1 HW1.out).1).trans HW1.out)
      have HW2_ := Lib.hid ((b.block _ (Array.getElem?_eq_some_iff.1 HW2.out).1).trans HW2.out)
      clear HS HX HW1 HW2
      have HS := HS_
      clear HS_
      have HX := HX_
      clear HX_
      have HW1 := HW1_
      clear HW1_
      have HW2 := HW2_
      clear HW2_
      clear b
      clear HCC
      clear c1
      have u0 := cell_kind HW1.out 0 _ rfl
      have u1 := cell_kind HW1.out 1 _ rfl
      have u2 := cell_kind HW2.out 0 _ rfl
      have u3 := cell_kind HW2.out 1 _ rfl
      have hnq := neqW1 gk gn
      go_wp2_with fail
      exact ⟨⟨j + 1, _, _, _, _, by omega, by go_num, HS.out⟩, by simp [intOf]; omega⟩
    · obtain rfl : j = l.length := by omega
      clear hlt
      have HS := Lib.hid hst
      clear hst
      obtain ⟨gk, gn, gi, gq, ge⟩ := win_out (sortD pr (D.filter (covB f))) nm
      have HGE := Lib.hid ge
      clear ge
      have HCC := Lib.hid (s_value HS.out.os HS.out.wf f nm)
      rw [HGE.out] at HCC
      go_wp2_with fail
      refine (HCC.out).mono ?_
      rintro e w5 ⟨he, b⟩
      clear HCC
      subst he
      have b2 := up2 b (below1 w5 (.cells #[.int .i64 gk, .int .i64 gn] 29))
      have HS_ := Lib.hid (HS.out.up b2)
      clear HS
      have HS := HS_
      clear HS_
      have HW1 := Lib.hid (MapKept.heap_alloc w5 (.cells #[.int .i64 gk, .int .i64 gn] 29)).1
      clear b b2
      have HCC := Lib.hid (s_rvalue HS.out.rs HS.out.wf f nm)
      rw [HGE.out] at HCC
      go_wp2_with fail
      refine (HCC.out).mono ?_
      rintro e w6 ⟨he, b⟩
      clear HCC
      subst he
      have b2 := up2 b (below1 w6 (.cells #[.int .i64 gk, .int .i64 gn] 29))
      have HS_ := Lib.hid (HS.out.up b2)
      have HW1_ := Lib.hid ((b2.block _ (Nat.lt_of_lt_of_le (Array.getElem?_eq_some_iff.1 HW1.out).1 (Nat.le_refl _))).trans HW1.out)
      clear HS HW1
      have HS := HS_
      clear HS_
      have HW1 := HW1_
      clear HW1_
      have HW2 := Lib.hid (MapKept.heap_alloc w6 (.cells #[.int .i64 gk, .int .i64 gn] 29)).1
      clear b b2
      have u0 := cell_kind HW1.out 0 _ rfl
      have u1 := cell_kind HW1.out 1 _ rfl
      have u2 := cell_kind HW2.out 0 _ rfl
      have u3 := cell_kind HW2.out 1 _ rfl
      have heq := eqW1 gk gn
      go_wp2_with fail
      refine (s_in HS.out.os HS.out.wf f t).mono ?_
      rintro e w7 ⟨va, rfl, hv, b⟩
      have HS_ := Lib.hid (HS.out.up b)
      clear HS
      have HS := HS_
      clear HS_
      have HV := Lib.hid (SlI.of hv)
      clear hv
      clear b
      go_wp2_with fail
      refine (s_rin HS.out.rs HS.out.wf f t).mono ?_
      rintro e w8 ⟨vb, rfl, hv, b⟩
      have HS_ := Lib.hid (HS.out.up b)
      have HV_ := Lib.hid (HV.out.up b)
      clear HS HV
      have HS := HS_
      clear HS_
      have HV := HV_
      clear HV_
      have HV2 := Lib.hid (SlI.of hv)
      clear hv
      clear b
      go_wp2_with fail
      refine (same_sl HV.out HV2.out (inI_len' HS.out.wf f t)).mono ?_
      rintro e w9 ⟨rfl, b⟩
      have HS_ := Lib.hid (HS.out.up b)
      have HV_ := Lib.hid (HV.out.up b)
      have HV2_ := Lib.hid (HV2.out.up b)
      clear HS HV HV2
      have HS := HS_
      clear HS_
      have HV := HV_
      clear HV_
      have HV2 := HV2_
      clear HV2_
      clear b
      clear HV HV2
      clear u0 u1 u2 u3 heq HW1 HW2
      go_wp2_with fail
      refine (s_next HS.out.os HS.out.wf f t).mono ?_
      rintro e w10 ⟨rfl, b⟩
      have HS_ := Lib.hid (HS.out.up b)
      clear HS
      have HS := HS_
      clear HS_
      clear b
      go_wp2_with fail
      refine (s_rnext HS.out.rs HS.out.wf f t).mono ?_
      rintro e w11 ⟨rfl, rfl⟩
      go_wp2_with fail
      refine (s_copy HS.out.os HS.out.wf).mono ?_
      rintro e w11 ⟨cb, rfl, hc, b⟩
      have HS_ := Lib.hid (HS.out.up b)
      clear HS
      have HS := HS_
      clear HS_
      have HC := Lib.hid hc
      clear hc
      clear b
      go_wp2_with fail
      refine (st_all HC.out HS.out.wf).mono ?_
      rintro e w12 ⟨va, Ma, rfl, ha, b⟩
      have HS_ := Lib.hid (HS.out.up b)
      have HC_ := Lib.hid (HC.out.up b)
      clear HS HC
      have HS := HS_
      clear HS_
      have HC := HC_
      clear HC_
      have HAA := Lib.hid ha
      clear ha
      clear b
      go_wp2_with fail
      refine (st_rall HS.out.rs HS.out.wf).mono ?_
      rintro e w13 ⟨vb, Mb, rfl, ha, b⟩
      have HS_ := Lib.hid (HS.out.up b)
      have HC_ := Lib.hid (HC.out.up b)
      have HAA_ := Lib.hid (HAA.out.up b)
      clear HS HC HAA
      have HS := HS_
      clear HS_
      have HC := HC_
      clear HC_
      have HAA := HAA_
      clear HAA_
      have HAB := Lib.hid ha
      clear ha
      clear b
      go_wp2_with fail
      refine (all_same HS.out.wf HAA.out HAB.out).mono ?_
      rintro e w14 ⟨rfl, b⟩
      have HS_ := Lib.hid (HS.out.up b)
      have HC_ := Lib.hid (HC.out.up b)
      have HAA_ := Lib.hid (HAA.out.up b)
      have HAB_ := Lib.hid (HAB.out.up b)
      clear HS HC HAA HAB
      have HS := HS_
      clear HS_
      have HC := HC_
      clear HC_
      have HAA := HAA_
      clear HAA_
      have HAB := HAB_
      clear HAB_
      clear b
      go_wp2_with fail
      go_ret
      exact ⟨rfl, HS.out.bel⟩
set_option maxRecDepth 100000 in
set_option maxHeartbeats 1000000 in
theorem script_many (pr ev : Int) (A : Option Addr) (cap ln : Nat) (f t nm : Int) (w : World) (hl : 60 < ln) (hm : ln ≤ maxLen) :
    Calls Tryz.prog 3 #[.int .i64 pr, .int .i64 ev, .slice A ln cap, .int .i64 f, .int .i64 t, .int .i64 nm] w fun e w' => e = .returned (.bool true) ∧ Below w.heap.size w w' := by
  unfold maxLen at hm
  have hl' : (60 : Int) < (ln : Int) := by omega
  go_enter Tryz.func3, Tryz.ntmps3
  go_wp2_with fail
  refine (lives_true w).mono ?_
  rintro e w1 ⟨rfl, hB1⟩
  go_wp2_with fail
  go_ret
  exact ⟨rfl, hB1⟩
theorem script_walk (pr ev : Int) (A : Option Addr) (ln cap : Nat) (f t nm : Int) (l : List Act18) (w : World) (h : l.length = ln ∧ ln ≤ maxLen ∧ RSl encA w A l) :
    Calls Tryz.prog 3 #[.int .i64 pr, .int .i64 ev, .slice A ln cap, .int .i64 f, .int .i64 t, .int .i64 nm] w fun e w' => e = .returned (.bool true) ∧ Below w.heap.size w w' := by
  obtain ⟨rfl, hm, hA⟩ := h
  by_cases hl : l.length ≤ 60
  · exact script_some pr ev A cap l f t nm w hl hA
  · exact script_many pr ev A cap l.length f t nm w (by omega) hm
end Go.Proofs.YthjkdeocdhdkaaaGreat
