/- ColumnLisps: the plain law. -/
import Derived.Test.YtphdkcdkhklicaaGreatDoorCkB
import Derived.Test.YtphdkcdkhklicaaGreatDoorZ18
namespace Go.Proofs.YtphdkcdkhklicaaGreatDoor
open Go.RowKit Go.Lib
set_option linter.unusedVariables false
set_option linter.unusedSimpArgs false
theorem lineB_ext {cs ds : List Nat} {lo : Nat} : ∀ k, (∀ j, lo ≤ j → j < k → chr cs j = chr ds j) → lineB cs lo k = lineB ds lo k
  | 0, _ => rfl
  | k + 1, h => by
    unfold lineB
    split
    · rfl
    · rw [h k (by omega) (by omega), lineB_ext k (fun j h1 h2 => h j h1 (by omega))]
theorem colF_ext {wid : Nat → Nat} {cs ds : List Nat} {tab : Nat} : ∀ n i col, (∀ j, i ≤ j → j < i + n → chr cs j = chr ds j) → colF wid cs tab n i col = colF wid ds tab n i col
  | 0, _, _, _ => rfl
  | n + 1, i, col, h => by
    unfold colF
    rw [h i (Nat.le_refl _) (by omega), colF_ext n (i + 1) _ (fun j h1 h2 => h j (by omega) (by omega))]
theorem colN_ext {wid : Nat → Nat} {cs ds : List Nat} {tab b i : Nat} (h : ∀ j, b ≤ j → j < i → chr cs j = chr ds j) : colN wid cs tab b i = colN wid ds tab b i := by
  unfold colN
  exact colF_ext _ _ _ (fun j h1 h2 => h j h1 (by omega))
/-- Two texts that are alike before x, where a line begins in both. -/
structure Alike (cs ds : List Nat) (x : Nat) : Prop where
  c : ∀ j, 1 ≤ j → j < x → chr cs j = chr ds j
  s : ∀ a c, 1 ≤ a → c ≤ x → subL cs a c = subL ds a c
  x1 : 1 ≤ x
  xc : x ≤ cs.length + 1
  xd : x ≤ ds.length + 1
theorem newC_alike {cs I : List Nat} {x y : Nat} (h1 : 1 ≤ x) (hxy : x ≤ y) (hy : y ≤ cs.length + 1) : Alike cs (newC cs x y I) x := by
  have hl := newC_len (cs := cs) (I := I) (x := x) (y := y) h1 hxy hy
  refine ⟨fun j g1 g2 => (newC_head h1 (by omega) g1 g2).symm, fun a c g1 g2 => ?_, h1, by omega, by omega⟩
  by_cases hac : c ≤ a
  · unfold subL; rw [show c - a = 0 by omega]; simp
  · have e : (cs.take (x - 1)).length = x - 1 := by simp; omega
    unfold subL newC
    rw [List.drop_append_of_le_length (by omega), List.take_append_of_le_length (by simp; omega), List.drop_take, List.take_take, Nat.min_eq_left (by omega)]
theorem open_ext {cs ds : List Nat} {x p tab : Nat} (h : Alike cs ds x) (hp1 : 1 ≤ p) (hpx : p < x) (hx : chr cs (x - 1) = 10) (hpn : chr cs p ≠ 10) :
    openV cs 1 (cs.length + 1) tab p = openV ds 1 (ds.length + 1) tab p := by
  have hxc := h.xc
  have hxd := h.xd
  have e1 : p ≤ lineE cs (cs.length + 1) p := lineE_ge p
  have e2 : lineE cs (cs.length + 1) p ≤ cs.length + 1 := lineE_le p (by omega)
  have hEx : lineE cs (cs.length + 1) p < x := by
    rcases Nat.lt_or_ge (lineE cs (cs.length + 1) p) x with g | g
    · exact g
    · exact absurd hx (lineE_no (hi := cs.length + 1) p (x - 1) (by omega) (by omega))
  have e3 := lineE_at (cs := cs) (hi := cs.length + 1) p (by omega)
  have e4 : chr cs (lineE cs (cs.length + 1) p) = 10 := by rcases e3 with g | ⟨_, g⟩; omega; exact g
  have hE : lineE ds (ds.length + 1) p = lineE cs (cs.length + 1) p := by
    refine lineE_eq ds (ds.length + 1) p _ e1 (by omega) (fun j g1 g2 => ?_) (.inr ?_)
    · rw [← h.c j (by omega) (by omega)]; exact lineE_no p j g1 g2
    · rw [← h.c _ (by omega) (by omega)]; exact e4
  have hpE : p < lineE cs (cs.length + 1) p := by
    rcases Nat.lt_or_ge p (lineE cs (cs.length + 1) p) with g | g
    · exact g
    · exact absurd (by rw [show p = lineE cs (cs.length + 1) p by omega]; exact e4) hpn
  have hB : ∀ j, j < x → lineB cs 1 j = lineB ds 1 j := fun j g => lineB_ext j (fun i g1 g2 => h.c i g1 (by omega))
  have hC : ∀ j, 1 ≤ j → j < x → colN widN cs tab (lineB cs 1 j) j = colN widN ds tab (lineB ds 1 j) j := fun j g0 g => by
    rw [← hB j g]
    have := lineB_ge (cs := cs) (lo := 1) j
    exact colN_ext (fun i g1 g2 => h.c i (by omega) (by omega))
  have hW : wordAt ds (lineE cs (cs.length + 1) p) p = wordAt cs (lineE cs (cs.length + 1) p) p := by
    unfold wordAt
    exact wordF_ext _ _ (fun j g1 g2 => (h.c j (by omega) (by omega)).symm)
  have hwi := wordF_is cs (lineE cs (cs.length + 1) p - (p + 1)) (p + 1)
  have hJ : formAt ds (lineE cs (cs.length + 1) p) p = formAt cs (lineE cs (cs.length + 1) p) p := by
    unfold formAt
    rw [hW]
    exact indF_ext _ _ (fun j g1 g2 => (h.c j (by unfold wordAt at g1; omega) (by unfold wordAt at g1 g2; omega)).symm)
  have hji := indF_is cs (lineE cs (cs.length + 1) p - wordAt cs (lineE cs (cs.length + 1) p) p) (wordAt cs (lineE cs (cs.length + 1) p) p)
  rw [show wordF cs (lineE cs (cs.length + 1) p - (p + 1)) (p + 1) = wordAt cs (lineE cs (cs.length + 1) p) p from rfl] at hwi
  rw [show indF cs (lineE cs (cs.length + 1) p - wordAt cs (lineE cs (cs.length + 1) p) p) (wordAt cs (lineE cs (cs.length + 1) p) p) = formAt cs (lineE cs (cs.length + 1) p) p from rfl] at hji
  unfold openV
  rw [hE, hW, hJ, ← hC p hp1 hpx, ← h.s _ _ (by omega) (by omega)]
  by_cases g : formAt cs (lineE cs (cs.length + 1) p) p < lineE cs (cs.length + 1) p
  · rw [← h.c (formAt cs (lineE cs (cs.length + 1) p) p) (by omega) (by omega), ← hC (formAt cs (lineE cs (cs.length + 1) p) p) (by omega) (by omega)]
  · rw [if_neg (show ¬ (formAt cs (lineE cs (cs.length + 1) p) p < lineE cs (cs.length + 1) p ∧ ¬ lispC (chr cs (formAt cs (lineE cs (cs.length + 1) p) p)) = 8) from fun q => g q.1), if_neg (show ¬ (formAt cs (lineE cs (cs.length + 1) p) p < lineE cs (cs.length + 1) p ∧ ¬ lispC (chr ds (formAt cs (lineE cs (cs.length + 1) p) p)) = 8) from fun q => g q.1)]
theorem spec_open : ∀ y ∈ specL, y.2.1 = 4 → widN y.1.toNat = 1 ∧ y.1 ≠ 9 ∧ y.1 ≠ 10 := by decide
theorem open_chr {c : Nat} (h : lispC c = 4) : widN c = 1 ∧ c ≠ 9 ∧ c ≠ 10 := by
  unfold lispC lispE at h
  cases hx : lookM specL c with
  | some x =>
    rw [hx] at h
    unfold lookM at hx
    simp only [Option.map_eq_some_iff] at hx
    obtain ⟨y, hy, rfl⟩ := hx
    have hm := List.mem_of_find?_eq_some hy
    have hk := List.find?_some hy
    have := spec_open y hm h
    have e : y.1 = (c : Int) := by simpa using hk
    rw [e, Int.toNat_natCast] at this
    exact ⟨this.1, by have := this.2.1; omega, by have := this.2.2; omega⟩
  | none =>
    rw [hx] at h
    simp only [] at h
    split at h
    · simp at h
    · unfold plainC at h
      split at h
      · simp at h
      · split at h <;> simp at h
/-- The column is greater than the delimiter's. -/
theorem open_gt {cs : List Nat} {x p tab : Nat} (ht : 1 ≤ tab) (hp1 : 1 ≤ p) (hpx : p < x) (hx : x ≤ cs.length + 1) (hpo : lispC (chr cs p) = 4) :
    colN widN cs tab (lineB cs 1 p) p + 1 ≤ openV cs 1 (cs.length + 1) tab p := by
  obtain ⟨w1, w2, w3⟩ := open_chr hpo
  have e1 : p ≤ lineE cs (cs.length + 1) p := lineE_ge p
  have b1 : lineB cs 1 p ≤ p := lineB_le p hp1
  have hwi := wordF_is cs (lineE cs (cs.length + 1) p - (p + 1)) (p + 1)
  have hji := indF_is cs (lineE cs (cs.length + 1) p - wordAt cs (lineE cs (cs.length + 1) p) p) (wordAt cs (lineE cs (cs.length + 1) p) p)
  rw [show wordF cs (lineE cs (cs.length + 1) p - (p + 1)) (p + 1) = wordAt cs (lineE cs (cs.length + 1) p) p from rfl] at hwi
  rw [show indF cs (lineE cs (cs.length + 1) p - wordAt cs (lineE cs (cs.length + 1) p) p) (wordAt cs (lineE cs (cs.length + 1) p) p) = formAt cs (lineE cs (cs.length + 1) p) p from rfl] at hji
  unfold openV
  split
  · omega
  · split
    · omega
    · split
      · rename_i g
        have hb : lineB cs 1 (formAt cs (lineE cs (cs.length + 1) p) p) = lineB cs 1 p := lineB_same (hi := cs.length + 1) p _ hp1 (by omega) (by omega)
        rw [hb]
        have h1 := colN_le (wid := widN) (cs := cs) ht (lineB cs 1 p) (p + 1) (formAt cs (lineE cs (cs.length + 1) p) p) (by omega) (by omega)
        rw [colN_succ (lineB cs 1 p) p b1] at h1
        unfold afterN at h1
        rw [if_neg w2, w1] at h1
        exact h1
      · omega
theorem encS_take (cs : List Nat) (x : Nat) : (encS (subL cs 1 x)).size ≤ (encS cs).size := by
  rw [subL_head]
  have e : encS cs = encS (cs.take (x - 1)) ++ encS (cs.drop (x - 1)) := by rw [encS_append, List.take_append_drop]
  rw [e, ByteArray.size_append]; omega
theorem getD_chr (cs : List Nat) (j : Nat) : cs.getD j 0 = chr cs (j + 1) := by unfold chr; rw [Nat.add_sub_cancel]
theorem subL_getD {cs : List Nat} {x j : Nat} (h : j < x - 1) : (subL cs 1 x).getD j 0 = cs.getD j 0 := by
  rw [subL_head, List.getD_eq_getElem?_getD, List.getD_eq_getElem?_getD, List.getElem?_take, if_pos h]
theorem sind_cs {T : Tx} (hw : Wide T) (hcn : ∀ c ∈ T.cs, isN c) {k col tab : Nat} (tabs : Bool) (hk1 : 1 ≤ k) (hk2 : k ≤ T.cs.length + 1) :
    ∃ y, lineB T.cs 1 k ≤ y ∧ y ≤ T.cs.length + 1 ∧ (sindT T k col tab tabs).cs = newC T.cs (lineB T.cs 1 k) y (indC col tab tabs) := by
  have hlo := hw.lo
  have hhi := hw.hi
  have b1 : 1 ≤ lineB T.cs 1 k := lineB_ge k
  have b2 : lineB T.cs 1 k ≤ k := lineB_le k hk1
  have e1 : k ≤ lineE T.cs (T.cs.length + 1) k := lineE_ge k
  have e2 : lineE T.cs (T.cs.length + 1) k ≤ T.cs.length + 1 := lineE_le k hk2
  obtain ⟨q1, q2, _, _⟩ := indN_is T.cs (b := lineB T.cs 1 k) (e := lineE T.cs (T.cs.length + 1) k) (by omega)
  refine ⟨indN T.cs (lineB T.cs 1 k) (lineE T.cs (T.cs.length + 1) k), q1, by omega, ?_⟩
  have hia : indA T k = lineB T.cs 1 k := by unfold indA; rw [hlo]
  have hiz : indZ T k = indN T.cs (lineB T.cs 1 k) (lineE T.cs (T.cs.length + 1) k) := by unfold indZ; rw [hlo, hhi]
  unfold sindT
  rw [hia, hiz]
  split
  · rename_i h
    rw [← encS_indC] at h
    rw [← encS_inj (subL_isN hcn _ _) (indC_isN col tab tabs) h, newC_self b1 q1 (by omega)]
  · exact repT_newC T b1 q1 (by omega)
/-- What the law needs. -/
structure LispL (T : Tx) (k col tab x : Nat) (S : OvS) (n : Nat) (T2 : Tx) : Prop where
  x1 : 1 ≤ x
  xk : x ≤ k
  hx : lineB T.cs T.S.lo k = x
  hS : ovF T.cs (x - 1) = S
  hn : lispV T.cs T.S.lo T.S.hi tab k = n
  sz : (encS (subL T.cs T.S.lo (lineB T.cs T.S.lo k))).size ≤ 190
  own : ¬ S.inn = 0 → colN widN T.cs tab (lineB T.cs T.S.lo (indN T.cs (lineB T.cs T.S.lo k) (lineE T.cs T.S.hi k))) (indN T.cs (lineB T.cs T.S.lo k) (lineE T.cs T.S.hi k)) = n
  no : S.inn = 0 → S.op = [] → n = 0
  op : S.inn = 0 → ∀ q, S.op.getLast? = some q → q + 1 < x ∧ colN widN T.cs tab (lineB T.cs T.S.lo (q + 1)) (q + 1) < n ∧ lispV T2.cs T2.S.lo T2.S.hi tab x = n
  oplen : S.op.length ≤ x
  ht2 : sindT T k col tab false = T2
  w2 : Wide T2
  l2 : T2.cs.length ≤ 3000
  xn : x ≤ T2.cs.length + 1
  sz2 : (encS (subL T2.cs T2.S.lo (lineB T2.cs T2.S.lo x))).size ≤ 190
theorem lisp_law {T : Tx} (hw : Wide T) (he : T.S.empty = true) (hO : T.O = []) (hcn : ∀ c ∈ T.cs, isN c) (hlen : T.cs.length ≤ 200) (hsz : (encS T.cs).size ≤ 120) {k col tab : Nat} (hk1 : 1 ≤ k) (hk2 : k ≤ T.cs.length + 1) (hc : col ≤ 1000) (ht : 1 ≤ tab) :
    ∃ x S n T2, LispL T k col tab x S n T2 := by
  obtain ⟨x, y0, z, hd, ld, tl, tx, T2, hL⟩ := ind_law hw he hO hcn hlen (k := k) (col := col) (tab := tab) false hk1 hk2 hc ht
  obtain ⟨y, hy1, hy2, hcs⟩ := sind_cs hw hcn (col := col) (tab := tab) false hk1 hk2
  have hlo := hw.lo
  have hhi := hw.hi
  have hx := hL.hx
  rw [hlo] at hx
  rw [hL.ht2, hx] at hcs
  rw [hx] at hy1
  have hl2 := hL.w2.lo
  have hh2 := hL.w2.hi
  have hxx := hL.x1
  have hxz := hL.xz
  have hzn := hL.zn
  have hal : Alike T.cs T2.cs x := by rw [hcs]; exact newC_alike hxx hy1 hy2
  have hx2 : lineB T2.cs 1 x = x := by have := hL.hx2; rwa [hl2] at this
  have hov : ∀ cs, ovF (subL cs 1 x) (x - 1) = ovF cs (x - 1) := fun cs => ovF_ext _ (fun j hj => subL_getD hj)
  have hs12 : subL T.cs 1 x = subL T2.cs 1 x := hal.s 1 x (Nat.le_refl _) (Nat.le_refl _)
  have hb := ovF_bd T.cs (x - 1)
  refine ⟨x, ovF T.cs (x - 1), lispV T.cs 1 (T.cs.length + 1) tab k, T2, ?_⟩
  refine { x1 := hxx, xk := hL.xk, hx := hL.hx, hS := rfl, hn := by rw [hlo, hhi], sz := by rw [hlo, hx]; have := encS_take T.cs x; omega, own := ?_, no := ?_, op := ?_, oplen := by omega, ht2 := hL.ht2, w2 := hL.w2, l2 := hL.l2, xn := by omega, sz2 := by rw [hl2, hx2, ← hs12]; have := encS_take T.cs x; omega }
  · intro h
    unfold lispV
    rw [hlo, hhi, hx, hov, if_pos h]
  · intro h1 h2
    unfold lispV
    rw [hx, hov, if_neg (by rw [h1]; simp), if_pos h2]
  · intro h1 q hq
    have hmem : q ∈ (ovF T.cs (x - 1)).op := List.mem_of_getLast? hq
    obtain ⟨g1, g2⟩ := ovF_op T.cs (x - 1) q hmem
    rw [getD_chr] at g2
    have hne : ¬ (ovF T.cs (x - 1)).op = [] := fun e => by rw [e] at hmem; simp at hmem
    have hlast : (ovF T.cs (x - 1)).op.getLastD 0 = q := by rw [List.getLastD_eq_getLast?, hq]; rfl
    have hv : lispV T.cs 1 (T.cs.length + 1) tab k = openV T.cs 1 (T.cs.length + 1) tab (q + 1) := by
      unfold lispV
      rw [hx, hov, if_neg (by rw [h1]; simp), if_neg hne, hlast, show 1 + q = q + 1 from Nat.add_comm 1 q]
    have hv2 : lispV T2.cs 1 (T2.cs.length + 1) tab x = openV T2.cs 1 (T2.cs.length + 1) tab (q + 1) := by
      unfold lispV
      rw [hx2, ← hs12, hov, if_neg (by rw [h1]; simp), if_neg hne, hlast, show 1 + q = q + 1 from Nat.add_comm 1 q]
    have h10 : chr T.cs (x - 1) = 10 := by
      have := lineB_at (cs := T.cs) (lo := 1) k
      rw [hx] at this
      rcases this with g | ⟨_, g⟩
      · omega
      · exact g
    refine ⟨by omega, ?_, ?_⟩
    · rw [hv, hlo]
      have := open_gt (cs := T.cs) (x := x) (p := q + 1) (tab := tab) ht (by omega) (by omega) hal.xc g2
      omega
    · rw [hl2, hh2, hv2, hv]
      exact (open_ext hal (by omega) (by omega) h10 (open_chr g2).2.2).symm
end Go.Proofs.YtphdkcdkhklicaaGreatDoor
