import Derived.Test.YtcfdalmllegefaaGreatDoorZ18
import Derived.Test.YtcfdalmllegefaaGreatDoorZ20
import Derived.Test.YtcfdalmllegefaaGreatDoorZ07
import Derived.Laws.EntriesVeiled
import Derived.Test.YtcfdalmllegefaaGreatDoorZ21
import Derived.Test.YtcfdalmllegefaaGreatDoorZ11
/- ColumnIndents: the plain law. -/
namespace Go.Proofs.YtcfdalmllegefaaGreatDoor
open Go.RowKit Go.Lib
set_option linter.unusedVariables false
set_option linter.unusedSimpArgs false
theorem lenR_chrs' (s : ByteArray) : lenR s = (chrs s).length := rfl
theorem repT_newC (T : Tx) {x y : Nat} {I : List Nat} (h1 : 1 ≤ x) (hxy : x ≤ y) (hy : y ≤ T.cs.length + 1) : (repT T x y I).cs = newC T.cs x y I := by
  unfold repT
  rw [putT_cs, takeT_cs]
  unfold insC delC newC
  have e1 : (T.cs.take (x - 1)).length = x - 1 := by simp; omega
  rw [List.take_append_of_le_length (by omega), List.drop_append_of_le_length (by omega), List.take_take, Nat.min_self, List.drop_take_self, List.nil_append, List.append_assoc]
theorem repT_ch (T : Tx) (x y : Nat) (I : List Nat) : (repT T x y I).ch = T.ch := by
  unfold repT putT takeT
  split <;> split <;> rfl
theorem encS_inj {a b : List Nat} (ha : ∀ c ∈ a, isN c) (hb : ∀ c ∈ b, isN c) (h : encS a = encS b) : a = b := by
  have := congrArg chrs h
  rwa [(chrs_encS ha).1, (chrs_encS hb).1] at this
/-- Undoing it gives the text back. -/
structure BackT (T2 : Tx) (cs : List Nat) (g : List Chg) : Prop where
  ok : RevsOkC T2.cs g.reverse
  eq : g.reverse.foldl revCs T2.cs = cs
  cost : revsC g.reverse ≤ 5020
  len : g.length ≤ 4
/-- What the law needs. -/
structure IndL (T : Tx) (k col tab : Nat) (tabs : Bool) (x y z : Nat) (hd ld tl tx : ByteArray) (T2 : Tx) : Prop where
  x1 : 1 ≤ x
  xk : x ≤ k
  xy : x ≤ y
  yn : y ≤ T.cs.length + 1
  hx : lineB T.cs T.S.lo k = x
  hy : indN T.cs (lineB T.cs T.S.lo k) (lineE T.cs T.S.hi k) = y
  hhd : textV T (1 : Int) (x : Int) = hd
  ehd : delE T (1 : Int) (x : Int) = 0
  hld : textV T (x : Int) (y : Int) = ld
  eld : delE T (x : Int) (y : Int) = 0
  htl : textV T (y : Int) ((T.cs.length : Int) + 1) = tl
  etl : delE T (y : Int) ((T.cs.length : Int) + 1) = 0
  bl : ∀ (i : Nat) (h : i < ld.size), (ld[i].toNat : Int) = 32 ∨ (ld[i].toNat : Int) = 9
  tb : tl = ⟨#[]⟩ ∨ ∃ (q : 0 < tl.size), ¬ (tl[0].toNat : Int) = 32 ∧ ¬ (tl[0].toNat : Int) = 9
  htx : indT col tab tabs = tx
  ht2 : sindT T k col tab tabs = T2
  w2 : Wide T2
  l2 : T2.cs.length ≤ 3000
  xz : x ≤ z
  zn : z ≤ T2.cs.length + 1
  hx2 : lineB T2.cs T2.S.lo x = x
  hz2 : indN T2.cs x (lineE T2.cs T2.S.hi x) = z
  hz3 : lineB T2.cs T2.S.lo z = x
  hcol : colN widN T2.cs tab x z = col
  all : encS T2.cs = hd ++ tx ++ tl
  len : x + lenR tx = z
  same : sindT T2 x col tab tabs = T2
  sp : tabs = false → ∀ (i : Nat) (h : i < tx.size), (tx[i].toNat : Int) = 32
  ch : T2.ch = T.ch
  un : ld = tx ∨ ¬ ld = tx ∧ ∃ g, logShut T2.G T2.O = T.G ++ [g] ∧ BackT T2 T.cs g
  z1 : hd.size ≤ 4000
  z2 : ld.size ≤ 4000
  z3 : tl.size ≤ 4000
  z4 : tx.size ≤ 4000
theorem ind_law {T : Tx} (hw : Wide T) (he : T.S.empty = true) (hO : T.O = []) (hcn : ∀ c ∈ T.cs, isN c) (hlen : T.cs.length ≤ 200) {k col tab : Nat} (tabs : Bool) (hk1 : 1 ≤ k) (hk2 : k ≤ T.cs.length + 1) (hc : col ≤ 1000) (ht : 1 ≤ tab) :
    ∃ x y z hd ld tl tx T2, IndL T k col tab tabs x y z hd ld tl tx T2 := by
  have hlo := hw.lo
  have hhi := hw.hi
  obtain ⟨x, hx⟩ : ∃ x, x = lineB T.cs 1 k := ⟨_, rfl⟩
  obtain ⟨y, hy⟩ : ∃ y, y = indN T.cs (lineB T.cs 1 k) (lineE T.cs (T.cs.length + 1) k) := ⟨_, rfl⟩
  have b1 : 1 ≤ lineB T.cs 1 k := lineB_ge k
  have b2 : lineB T.cs 1 k ≤ k := lineB_le k hk1
  have e1 : k ≤ lineE T.cs (T.cs.length + 1) k := lineE_ge k
  have e2 : lineE T.cs (T.cs.length + 1) k ≤ T.cs.length + 1 := lineE_le k hk2
  have e3 := lineE_at (cs := T.cs) (hi := T.cs.length + 1) k hk2
  obtain ⟨q1, q2, q3, q4⟩ := indN_is T.cs (b := lineB T.cs 1 k) (e := lineE T.cs (T.cs.length + 1) k) (by omega)
  rw [← hy] at q1 q2 q3 q4
  have hia : indA T k = x := by unfold indA; rw [hlo, hx]
  have hiz : indZ T k = y := by unfold indZ; rw [hlo, hhi, hy]
  obtain ⟨n1, n2, n3⟩ := ind_new (I := indC col tab tabs) hk1 hk2 hx hy (indC_blank col tab tabs)
  rw [← hx] at b1 b2 q1 q3
  have hyn : y ≤ T.cs.length + 1 := by omega
  have ncol := ind_col (cs := T.cs) (x := x) (y := y) (col := col) (tab := tab) (tabs := tabs) ht b1 (by omega)
  have nsub := newC_sub (cs := T.cs) (I := indC col tab tabs) (x := x) (y := y) b1 (by omega)
  have nlen := newC_len (cs := T.cs) (I := indC col tab tabs) (x := x) (y := y) b1 q1 hyn
  have ilen := indC_len col tab tabs
  have hrx : ∀ a c : Nat, 1 ≤ a → a ≤ c → c ≤ T.cs.length + 1 → textV T (a : Int) (c : Int) = encS (subL T.cs a c) ∧ delE T (a : Int) (c : Int) = 0 := fun a c g1 g2 g3 => by
    have hr : reachB T.S (a : Int) (c : Int) = true := reach_iff.2 (by rw [hlo, hhi]; omega)
    exact ⟨by unfold textV; rw [if_pos hr]; rfl, by unfold delE; rw [if_pos hr]⟩
  have hsi := subL_isN hcn x y
  have hsl := subL_len (cs := T.cs) b1 hyn
  -- the new text
  have h2cs : (sindT T k col tab tabs).cs = newC T.cs x y (indC col tab tabs) := by
    unfold sindT
    rw [hia, hiz]
    split
    · rename_i h
      rw [← encS_indC] at h
      rw [← encS_inj hsi (indC_isN col tab tabs) h, newC_self b1 q1 hyn]
    · exact repT_newC T b1 q1 hyn
  have h2w : Wide (sindT T k col tab tabs) := by
    unfold sindT
    rw [hia, hiz]
    split
    · exact hw
    · exact hw.rep b1 q1 hyn
  have h2ch : (sindT T k col tab tabs).ch = T.ch := by
    unfold sindT
    split
    · rfl
    · exact repT_ch _ _ _ _
  have hl2 := h2w.lo
  have hh2 := h2w.hi
  obtain ⟨T2, hT2⟩ : ∃ T2, T2 = sindT T k col tab tabs := ⟨_, rfl⟩
  rw [← hT2] at h2cs h2w h2ch hl2 hh2
  have f1 : lineB T2.cs T2.S.lo x = x := by rw [hl2, h2cs, n1]
  have f2 : indN T2.cs x (lineE T2.cs T2.S.hi x) = x + (indC col tab tabs).length := by rw [hh2, h2cs, n2]
  refine ⟨x, y, x + (indC col tab tabs).length, encS (subL T.cs 1 x), encS (subL T.cs x y), encS (subL T.cs y (T.cs.length + 1)), indT col tab tabs, T2, ?_⟩
  have hallq : encS T2.cs = encS (subL T.cs 1 x) ++ indT col tab tabs ++ encS (subL T.cs y (T.cs.length + 1)) := by
    rw [← encS_indC, encS_append, encS_append, h2cs, subL_head, subL_tail _ (by omega)]
    unfold newC; rw [List.append_assoc]
  refine { x1 := b1, xk := b2, xy := q1, yn := hyn, hx := by rw [hlo, hx], hy := by rw [hlo, hhi, hy], hhd := (hrx 1 x (by omega) b1 (by omega)).1, ehd := (hrx 1 x (by omega) b1 (by omega)).2, hld := (hrx x y b1 q1 hyn).1, eld := (hrx x y b1 q1 hyn).2, htl := (hrx y _ (by omega) hyn (Nat.le_refl _)).1, etl := (hrx y _ (by omega) hyn (Nat.le_refl _)).2, bl := ?_, tb := ?_, htx := rfl, ht2 := hT2.symm, w2 := h2w, l2 := by rw [h2cs, nlen]; omega, xz := by omega, zn := by rw [h2cs, nlen]; omega, hx2 := f1, hz2 := f2, hz3 := by rw [hl2, h2cs, n3], hcol := by rw [h2cs, ncol], all := hallq, len := ?_, same := ?_, sp := ?_, ch := h2ch, un := ?_, z1 := ?_, z2 := ?_, z3 := ?_, z4 := ?_ }
  · intro i hi
    refine blank_byte (fun c hcm => ?_) i hi
    obtain ⟨j, hj, e⟩ := List.getElem_of_mem hcm
    rw [hsl] at hj
    have hq := q3 (x + j) (by omega) (by omega)
    have : chr T.cs (x + j) = c := by
      have e' : (subL T.cs x y)[j]? = some c := by rw [List.getElem?_eq_getElem (by omega), e]
      unfold subL at e'
      rw [List.getElem?_take, if_pos (by omega), List.getElem?_drop] at e'
      unfold chr
      rw [List.getD_eq_getElem?_getD, show x + j - 1 = x - 1 + j by omega, e']; rfl
    rw [this] at hq; exact hq
  · by_cases hlt : y = T.cs.length + 1
    · left
      rw [hlt]; unfold subL; simp; rfl
    · right
      have hnb : ¬ (chr T.cs y = 32 ∨ chr T.cs y = 9) := by
        rcases q4 with a | a
        · rcases e3 with c | ⟨_, c⟩
          · omega
          · rw [a, c]; omega
        · exact a
      have hdr : subL T.cs y (T.cs.length + 1) = chr T.cs y :: T.cs.drop y := by
        rw [subL_tail _ (by omega), List.drop_eq_getElem_cons (show y - 1 < T.cs.length by omega), show y - 1 + 1 = y by omega]
        unfold chr
        rw [List.getD_eq_getElem?_getD, List.getElem?_eq_getElem (by omega)]; rfl
      have hcy : isN (chr T.cs y) := hcn _ (chr_mem (by omega) (by omega))
      rw [hdr]; exact tail_byte hcy hnb
  · rw [lenR_chrs', (chrs_indT col tab tabs).1]
  · have hia2 : indA T2 x = x := f1
    have hiz2 : indZ T2 x = x + (indC col tab tabs).length := by unfold indZ; rw [f1]; exact f2
    unfold sindT
    rw [hia2, hiz2, h2cs, nsub, encS_indC, if_pos rfl]
  · intro htb i hi
    subst htb
    have e : indT col tab false = repB 32 col := by
      unfold indT tabsN
      rw [if_neg (by simp), Nat.zero_mul, Nat.sub_zero]
      exact bytes_ext (by simp [repB])
    revert hi
    rw [e]
    intro hi
    exact rep_byte col i hi
  · by_cases hld : encS (subL T.cs x y) = indT col tab tabs
    · exact .inl hld
    · refine .inr ⟨hld, ?_⟩
      have hrep : T2 = repT T x y (indC col tab tabs) := by rw [hT2]; unfold sindT; rw [hia, hiz, if_neg hld]
      have hne : ¬ (x = y ∧ indC col tab tabs = []) := fun ⟨g1, g2⟩ => hld (by
        rw [← encS_indC, g2, List.eq_nil_of_length_eq_zero (show (subL T.cs x y).length = 0 by omega)])
      obtain ⟨g, g1, g2, g3, g4, g5⟩ := undo_rep he hO b1 q1 hyn hcn (by omega) (by omega) hne
      rw [← hrep] at g1 g3 g4
      exact ⟨g, g1, ⟨g3, g4, by omega, g2⟩⟩
  · have := encS_le (subL T.cs 1 x); have := subL_len (cs := T.cs) (x := 1) (y := x) (by omega) (by omega); omega
  · have := encS_le (subL T.cs x y); omega
  · have := encS_le (subL T.cs y (T.cs.length + 1)); have := subL_len (cs := T.cs) (x := y) (y := T.cs.length + 1) (by omega) (by omega); omega
  · have := indT_size col tab tabs; omega
end Go.Proofs.YtcfdalmllegefaaGreatDoor
/- ColumnFills, in plain Lean: a line of a text; what the statement asks of each line. -/
namespace Go.Proofs.YtcfdalmllegefaaGreatDoor
open Go.RowKit Go.Lib
set_option linter.unusedVariables false
set_option linter.unusedSimpArgs false
theorem getD_appL (l r : List Nat) (d j : Nat) (h : j < l.length) : (l ++ r).getD j d = l.getD j d := by
  rw [List.getD_eq_getElem?_getD, List.getD_eq_getElem?_getD, List.getElem?_append_left h]
theorem getD_appR (l r : List Nat) (d j : Nat) (h : l.length ≤ j) : (l ++ r).getD j d = r.getD (j - l.length) d := by
  rw [List.getD_eq_getElem?_getD, List.getD_eq_getElem?_getD, List.getElem?_append_right h]
theorem chr_app (a c : List Nat) (j : Nat) : chr (a ++ c) (a.length + 1 + j) = c.getD j 0 := by
  unfold chr
  rw [show a.length + 1 + j - 1 = a.length + j by omega, getD_appR _ _ _ _ (by omega)]
  congr 1; omega
theorem colF_width (wid : Nat → Nat) (tab : Nat) : ∀ (l : List Nat) (cs : List Nat) (i col : Nat), (∀ j, j < l.length → chr cs (i + j) = l.getD j 0) → colF wid cs tab l.length i col = widthC tab wid col l
  | [], cs, i, col, _ => rfl
  | c :: l, cs, i, col, h => by
    have h0 := h 0 (by simp)
    rw [Nat.add_zero] at h0
    have h0' : chr cs i = c := h0
    rw [List.length_cons, colF, h0', colF_width wid tab l cs (i + 1) _ (fun j hj => by
      have := h (j + 1) (by simp; omega)
      rw [show i + (j + 1) = i + 1 + j by omega] at this
      rw [this]; simp)]
    rfl
structure LineL (cs : List Nat) (tab p hi : Nat) (l : List Nat) (e : Nat) : Prop where
  e1 : lineE cs hi p = e
  e2 : e = p + l.length
  e3 : e ≤ hi
  tx : subL cs p e = l
  no : 10 ∉ l
  bg : lineB cs 1 e = p
  wd : colN widN cs tab p e = widthC tab widN 0 l
  row : l = [] ∨ ∃ r ∈ rowsC cs, lineOf r = l
theorem line_law (cs a c : List Nat) (tab : Nat) (hcs : cs = a ++ c) (hf : fullR a) : ∃ l e, LineL cs tab (a.length + 1) (cs.length + 1) l e ∧
    ((e = cs.length + 1 ∧ linesF cs 1 (cs.length + 1) 1 (a.length + 1) = (cs.length + 1, 1)) ∨
     (e < cs.length + 1 ∧ linesF cs 1 (cs.length + 1) 1 (a.length + 1) = (e + 1, 0) ∧ ∃ a' c', cs = a' ++ c' ∧ fullR a' ∧ e + 1 = a'.length + 1)) := by
  have hb : ∀ (l c2 : List Nat), c = l ++ c2 → 10 ∉ l → lineB cs 1 (a.length + 1 + l.length) = a.length + 1 := fun l c2 hc h10 => by
    refine lineB_eq _ _ (by omega) (by omega) (fun j h1 h2 => ?_) ?_
    · obtain ⟨d, rfl⟩ := Nat.le.dest h1
      rw [hcs, chr_app, hc, getD_appL _ _ _ _ (by omega)]
      rw [List.getD_eq_getElem?_getD, List.getElem?_eq_getElem (by omega)]
      exact fun e => h10 (by rw [← e]; exact List.getElem_mem _)
    · rcases hf with rfl | ⟨b, rfl⟩
      · exact .inl rfl
      · refine .inr ⟨by simp, ?_⟩
        rw [hcs]; unfold chr; simp
  have hw : ∀ (l c2 : List Nat), c = l ++ c2 → colN widN cs tab (a.length + 1) (a.length + 1 + l.length) = widthC tab widN 0 l := fun l c2 hc => by
    unfold colN
    rw [Nat.add_sub_cancel_left]
    exact colF_width widN tab l cs _ 0 (fun j hj => by rw [hcs, chr_app, hc, getD_appL _ _ _ _ hj])
  have hs : ∀ (l c2 : List Nat), c = l ++ c2 → subL cs (a.length + 1) (a.length + 1 + l.length) = l := fun l c2 hc => by
    unfold subL
    rw [hcs, show a.length + 1 - 1 = a.length by omega, List.drop_left, Nat.add_sub_cancel_left, hc, List.take_left]
  have hno : ∀ (l c2 : List Nat), c = l ++ c2 → 10 ∉ l → ∀ j, a.length + 1 ≤ j → j < a.length + 1 + l.length → chr cs j ≠ 10 := fun l c2 hc h10 j h1 h2 => by
    obtain ⟨d, rfl⟩ := Nat.le.dest h1
    rw [hcs, chr_app, hc, getD_appL _ _ _ _ (by omega)]
    rw [List.getD_eq_getElem?_getD, List.getElem?_eq_getElem (by omega)]
    exact fun e => h10 (by rw [← e]; exact List.getElem_mem _)
  by_cases h10 : 10 ∈ c
  · obtain ⟨l, c', hc, hl⟩ := split_ten c h10
    have hlen : cs.length = a.length + (l.length + (c'.length + 1)) := by rw [hcs, hc]; simp
    have hch : chr cs (a.length + 1 + l.length) = 10 := by
      rw [hcs, chr_app, hc, getD_appR _ _ _ _ (Nat.le_refl _)]; simp
    have he : lineE cs (cs.length + 1) (a.length + 1) = a.length + 1 + l.length := lineE_eq cs _ _ _ (by omega) (by omega) (hno l _ hc hl) (.inr hch)
    refine ⟨l, a.length + 1 + l.length, ⟨he, rfl, by omega, hs l _ hc, hl, hb l _ hc hl, hw l _ hc, .inr ⟨l ++ [10], ?_, lineOf_ten l⟩⟩, .inr ⟨by omega, ?_, a ++ (l ++ [10]), c', by rw [hcs, hc]; simp, .inr ⟨a ++ l, by simp⟩, by simp; omega⟩⟩
    · rw [hcs, rowsC_full hf, hc, show l ++ 10 :: c' = (l ++ [10]) ++ c' by simp, rowsC_row ⟨l, hl, rfl⟩ c']
      simp
    · have hfw : fwdN cs (cs.length + 1) 1 (a.length + 1) = (a.length + 1 + l.length + 1, 0) := by
        unfold fwdN
        rw [he, if_neg (by omega)]
        rfl
      unfold linesF
      rw [hfw, if_pos rfl]
      have : lineB cs 1 (a.length + 1 + l.length + 1) = a.length + 1 + l.length + 1 := lineB_eq _ _ (by omega) (Nat.le_refl _) (fun j h1 h2 => by omega) (.inr ⟨by omega, by rw [Nat.add_sub_cancel]; exact hch⟩)
      rw [this]
  · have hlen : cs.length = a.length + c.length := by rw [hcs]; simp
    have hcc : c = c ++ [] := by simp
    have he : lineE cs (cs.length + 1) (a.length + 1) = a.length + 1 + c.length := lineE_eq cs _ _ _ (by omega) (by omega) (hno c [] hcc h10) (.inl (by omega))
    refine ⟨c, a.length + 1 + c.length, ⟨he, rfl, by omega, hs c [] hcc, h10, hb c [] hcc h10, hw c [] hcc, ?_⟩, .inl ⟨by omega, ?_⟩⟩
    · by_cases hc0 : c = []
      · exact .inl hc0
      · refine .inr ⟨c, ?_, lineOf_no h10⟩
        rw [hcs, rowsC_full hf, rowsC_end hc0 h10]; simp
    · have hfw : fwdN cs (cs.length + 1) 1 (a.length + 1) = (cs.length + 1, 1) := by
        unfold fwdN
        rw [he, if_pos (by omega)]
      unfold linesF
      rw [hfw, if_neg (by simp)]
theorem sub_all (cs : List Nat) : subL cs 1 (cs.length + 1) = cs := by unfold subL; simp
/-- Filling all of a text. -/
theorem fillX_all {T : Tx} {most tab : Nat} (hN : ∀ c ∈ T.cs, isN c) : (fillX T 1 (T.cs.length + 1) most tab).cs = fillT widN most tab T.cs := by
  unfold fillX
  rw [sub_all]
  split
  · rename_i h
    exact encS_inj hN (fillT_isN widN most tab hN) h
  · show (putT (takeT T 1 (T.cs.length + 1)) 1 (fillT widN most tab T.cs) false).cs = _
    rw [putT_cs, takeT_cs]
    unfold insC delC
    simp
end Go.Proofs.YtcfdalmllegefaaGreatDoor
/- package syntax: the table of Lisp is made, of new blocks. -/
namespace Go.Proofs.YtcfdalmllegefaaGreatDoor
open Go.RowKit
set_option linter.unusedVariables false
set_option linter.unusedSimpArgs false
section
variable {w w' : World} {tb bs ms mo : Nat}
set_option maxRecDepth 100000 in
set_option maxHeartbeats 4000000 in
theorem synLispN (w : World) : Calls Tryz.prog 14 #[] w fun e w' => ∃ tb bs ms mo, e = .returned (pAt tb) ∧ Below w.heap.size w w' ∧ LspT w' tb bs ms mo ∧ w.heap.size ≤ tb ∧ w.heap.size ≤ bs ∧ w.heap.size ≤ ms ∧ w.heap.size ≤ mo := by
  have hmm := @run_makeMap Tryz.prog
  have HM := Lib.hid hmm
  clear hmm
  go_enter Tryz.func14, Tryz.ntmps14
  go_wp2_with fail
  refine (synNew w).mono ?_
  rintro e w1 ⟨rfl, hb1, hs1, hk1, him1⟩
  have hs1' : w.heap.size + 2 ≤ w1.heap.size := Nat.le_of_eq hs1.symm
  clear hs1
  have im0 : IM (w1.alloc (.map #[] 0)) w1.heap.size encE [] := ⟨[], 0, ⟨(MapKept.heap_alloc w1 _).1, List.nodup_nil, List.nodup_nil, fun x hx => by cases hx⟩, rfl⟩
  have zz0 : (w1.alloc (.map #[] 0)).heap.size = w1.heap.size + 1 := by simp
  have hal := below1 w1 (.map #[] 0)
  have K0 := hk1.up hal
  have O0 := him1.kept (hal.block _ him1.lt)
  have b0 : Below w.heap.size w (w1.alloc (.map #[] 0)) := up2 hb1 hal
  obtain ⟨W0, hW0⟩ : ∃ W0, w1.alloc (.map #[] 0) = W0 := ⟨_, rfl⟩
  have HW := Lib.hid hW0
  have hmk := fun t => HM.out t w1
  simp only [hW0] at hmk
  rw [hW0] at im0 zz0 K0 O0 b0
  clear hW0 hal him1 hk1 hb1
  obtain ⟨W1, r0, im1, g0, y0⟩ := im0.store (P := Tryz.prog) mapTE keyTE 40 (4, 41)
  have b1 := b0.grown g0 b0.size (fun k hk => by have hk := Option.some.inj hk; omega)
  have zz1 : W1.heap.size = w1.heap.size + 1 := y0.trans zz0
  have K1 := K0.kept (g0.block _ (by omega) (by intro e; have e := Option.some.inj e; omega))
  have O1 := O0.kept (g0.block _ (by omega) (by intro e; have e := Option.some.inj e; omega))
  clear im0 g0 y0 b0 zz0 K0 O0
  obtain ⟨W2, r1, im2, g1, y1⟩ := im1.store (P := Tryz.prog) mapTE keyTE 41 (5, 40)
  have b2 := b1.grown g1 b1.size (fun k hk => by have hk := Option.some.inj hk; omega)
  have zz2 : W2.heap.size = w1.heap.size + 1 := y1.trans zz1
  have K2 := K1.kept (g1.block _ (by omega) (by intro e; have e := Option.some.inj e; omega))
  have O2 := O1.kept (g1.block _ (by omega) (by intro e; have e := Option.some.inj e; omega))
  clear im1 g1 y1 b1 zz1 K1 O1
  obtain ⟨W3, r2, im3, g2, y2⟩ := im2.store (P := Tryz.prog) mapTE keyTE 91 (4, 93)
  have b3 := b2.grown g2 b2.size (fun k hk => by have hk := Option.some.inj hk; omega)
  have zz3 : W3.heap.size = w1.heap.size + 1 := y2.trans zz2
  have K3 := K2.kept (g2.block _ (by omega) (by intro e; have e := Option.some.inj e; omega))
  have O3 := O2.kept (g2.block _ (by omega) (by intro e; have e := Option.some.inj e; omega))
  clear im2 g2 y2 b2 zz2 K2 O2
  obtain ⟨W4, r3, im4, g3, y3⟩ := im3.store (P := Tryz.prog) mapTE keyTE 93 (5, 91)
  have b4 := b3.grown g3 b3.size (fun k hk => by have hk := Option.some.inj hk; omega)
  have zz4 : W4.heap.size = w1.heap.size + 1 := y3.trans zz3
  have K4 := K3.kept (g3.block _ (by omega) (by intro e; have e := Option.some.inj e; omega))
  have O4 := O3.kept (g3.block _ (by omega) (by intro e; have e := Option.some.inj e; omega))
  clear im3 g3 y3 b3 zz3 K3 O3
  obtain ⟨W5, r4, im5, g4, y4⟩ := im4.store (P := Tryz.prog) mapTE keyTE 34 (6, 0)
  have b5 := b4.grown g4 b4.size (fun k hk => by have hk := Option.some.inj hk; omega)
  have zz5 : W5.heap.size = w1.heap.size + 1 := y4.trans zz4
  have K5 := K4.kept (g4.block _ (by omega) (by intro e; have e := Option.some.inj e; omega))
  have O5 := O4.kept (g4.block _ (by omega) (by intro e; have e := Option.some.inj e; omega))
  clear im4 g4 y4 b4 zz4 K4 O4
  obtain ⟨W6, r5, im6, g5, y5⟩ := im5.store (P := Tryz.prog) mapTE keyTE 92 (7, 0)
  have b6 := b5.grown g5 b5.size (fun k hk => by have hk := Option.some.inj hk; omega)
  have zz6 : W6.heap.size = w1.heap.size + 1 := y5.trans zz5
  have K6 := K5.kept (g5.block _ (by omega) (by intro e; have e := Option.some.inj e; omega))
  have O6 := O5.kept (g5.block _ (by omega) (by intro e; have e := Option.some.inj e; omega))
  clear im5 g5 y5 b5 zz5 K5 O5
  obtain ⟨W7, r6, im7, g6, y6⟩ := im6.store (P := Tryz.prog) mapTE keyTE 59 (8, 0)
  have b7 := b6.grown g6 b6.size (fun k hk => by have hk := Option.some.inj hk; omega)
  have zz7 : W7.heap.size = w1.heap.size + 1 := y6.trans zz6
  have K7 := K6.kept (g6.block _ (by omega) (by intro e; have e := Option.some.inj e; omega))
  have O7 := O6.kept (g6.block _ (by omega) (by intro e; have e := Option.some.inj e; omega))
  clear im6 g6 y6 b6 zz6 K6 O6
  obtain ⟨W8, r7, im8, g7, y7⟩ := im7.store (P := Tryz.prog) mapTE keyTE 10 (9, 0)
  have b8 := b7.grown g7 b7.size (fun k hk => by have hk := Option.some.inj hk; omega)
  have zz8 : W8.heap.size = w1.heap.size + 1 := y7.trans zz7
  have K8 := K7.kept (g7.block _ (by omega) (by intro e; have e := Option.some.inj e; omega))
  have O8 := O7.kept (g7.block _ (by omega) (by intro e; have e := Option.some.inj e; omega))
  clear im7 g7 y7 b7 zz7 K7 O7
  obtain ⟨W9, r8, im9, g8, y8⟩ := im8.store (P := Tryz.prog) mapTE keyTE 39 (10, 0)
  have b9 := b8.grown g8 b8.size (fun k hk => by have hk := Option.some.inj hk; omega)
  have zz9 : W9.heap.size = w1.heap.size + 1 := y8.trans zz8
  have K9 := K8.kept (g8.block _ (by omega) (by intro e; have e := Option.some.inj e; omega))
  have O9 := O8.kept (g8.block _ (by omega) (by intro e; have e := Option.some.inj e; omega))
  clear im8 g8 y8 b8 zz8 K8 O8
  obtain ⟨W10, r9, im10, g9, y9⟩ := im9.store (P := Tryz.prog) mapTE keyTE 96 (10, 0)
  have b10 := b9.grown g9 b9.size (fun k hk => by have hk := Option.some.inj hk; omega)
  have zz10 : W10.heap.size = w1.heap.size + 1 := y9.trans zz9
  have K10 := K9.kept (g9.block _ (by omega) (by intro e; have e := Option.some.inj e; omega))
  have O10 := O9.kept (g9.block _ (by omega) (by intro e; have e := Option.some.inj e; omega))
  clear im9 g9 y9 b9 zz9 K9 O9
  obtain ⟨W11, r10, im11, g10, y10⟩ := im10.store (P := Tryz.prog) mapTE keyTE 44 (10, 0)
  have b11 := b10.grown g10 b10.size (fun k hk => by have hk := Option.some.inj hk; omega)
  have zz11 : W11.heap.size = w1.heap.size + 1 := y10.trans zz10
  have K11 := K10.kept (g10.block _ (by omega) (by intro e; have e := Option.some.inj e; omega))
  have O11 := O10.kept (g10.block _ (by omega) (by intro e; have e := Option.some.inj e; omega))
  clear im10 g10 y10 b10 zz10 K10 O10
  have zr : w1.heap.size + 1 ≤ W11.heap.size := Nat.le_of_eq zz11.symm
  have zr2 := Lib.hid zz11
  have HIM := Lib.hid im11
  have HB := Lib.hid b11
  have HK := Lib.hid K11
  have HO := Lib.hid O11
  clear zz11 im11 b11 K11 O11
  have c0 := HK.out.cell (j := 0) rfl
  have f0 := HK.out.fz 0
  have hlt : w.heap.size + 1 < W11.heap.size := by omega
  go_wp2_with fail
  go_ret
  have zW : W11.heap.size = w1.heap.size + 1 := zr2.out
  have hal := below1 (W11.setCell ⟨w.heap.size + 1, 0, none⟩ (.func (.func 67) #[] #[pAt W11.heap.size])) (.cells #[.map (some w1.heap.size)] 97)
  have hsz : (W11.setCell ⟨w.heap.size + 1, 0, none⟩ (.func (.func 67) #[] #[pAt W11.heap.size])).heap.size = W11.heap.size := by simp
  have hk := Blk.made (W11.setCell ⟨w.heap.size + 1, 0, none⟩ (.func (.func 67) #[] #[pAt W11.heap.size])) 97 #[.map (some w1.heap.size)]
  rw [hsz] at hk
  refine ⟨w.heap.size + 1, W11.heap.size, w1.heap.size, w.heap.size, rfl, ?_, ⟨?_, hk, ?_, ?_⟩, by omega, by omega, by omega, Nat.le_refl _⟩
  · exact (HB.out.setCell (p := ⟨w.heap.size + 1, 0, none⟩) (by show w.heap.size ≤ w.heap.size + 1; omega) _).trans (hal.mono (by rw [hsz]; exact HB.out.size))
  · exact (HK.out.set (j := 0) (by simp) (.func (.func 67) #[] #[pAt W11.heap.size])).up hal
  · exact (HIM.out.kept (Below.heap_setCell _ _ _ _ (by show w1.heap.size ≠ w.heap.size + 1; omega))).kept (hal.block _ (by rw [hsz]; exact HIM.out.lt))
  · exact (HO.out.kept (Below.heap_setCell _ _ _ _ (by show w.heap.size ≠ w.heap.size + 1; omega))).kept (hal.block _ (by rw [hsz]; exact HO.out.lt))
end
end Go.Proofs.YtcfdalmllegefaaGreatDoor
/- package column: Lisp at the example's text. -/
namespace Go.Proofs.YtcfdalmllegefaaGreatDoor
open Go.RowKit
set_option linter.unusedVariables false
set_option linter.unusedSimpArgs false
deriving instance DecidableEq for OvS
section
variable {w w' : World} {b g tb bs ms mo : Nat} {S : BS}
set_option maxHeartbeats 2000000 in
theorem pre0_ok (w : World) : Calls Tryz.prog 219 #[.string ⟨#[108, 101, 116]⟩, .string ⟨#[100, 101, 102]⟩] w fun e w' => e = .returned (.bool false) ∧ w = w' := by
  have hb : (binOp .eql 9 (.string ⟨#[108, 101, 116]⟩) (.string ⟨#[100, 101, 102]⟩)).run Tryz.prog w = .ok (.bool false) w := by kernel_rfl
  go_enter Tryz.func219, Tryz.ntmps219
  go_wp2_with fail
  go_ret
  refine ⟨?_, rfl⟩
  simp only [Array.getD_eq_getD_getElem?]
  simp
  decide +kernel
set_option maxHeartbeats 2000000 in
theorem pre_ok (w : World) : Calls Tryz.prog 136 #[.string ⟨#[108, 101, 116]⟩, .string ⟨#[100, 101, 102]⟩] w fun e w' => e = .returned (.bool false) ∧ w = w' := by
  go_enter Tryz.func136, Tryz.ntmps136
  go_wp2_with fail
  refine (pre0_ok w).mono ?_
  rintro e w1 ⟨rfl, rfl⟩
  go_wp2_with fail
  go_ret
  exact ⟨rfl, rfl⟩
set_option maxHeartbeats 2000000 in
theorem body_ok (w : World) : Calls Tryz.prog 64 #[.string ⟨#[108, 101, 116]⟩] w fun e w' => e = .returned (.bool true) ∧ w = w' := by
  go_enter Tryz.func64, Tryz.ntmps64
  go_wp2_with fail
  refine (pre_ok w).mono ?_
  rintro e w1 ⟨rfl, rfl⟩
  go_wp2_with fail
  go_ret
  exact ⟨rfl, rfl⟩
def liC : List Nat := [40, 108, 101, 116, 32, 40, 120, 41, 10, 121, 41]
theorem li_pre : encS (subL liC 1 10) = ⟨#[40, 108, 101, 116, 32, 40, 120, 41, 10]⟩ := by decide
theorem li_let : encS (subL liC 2 5) = ⟨#[108, 101, 116]⟩ := by decide
theorem li_len : rlenG ⟨#[40, 108, 101, 116, 32, 40, 120, 41, 10]⟩ = 9 := by decide
theorem li_val : (charsD (⟨#[40, 108, 101, 116, 32, 40, 120, 41, 10]⟩ : ByteArray).data.toList).isSome = true := by decide
theorem li_chrs : chrs ⟨#[40, 108, 101, 116, 32, 40, 120, 41, 10]⟩ = [40, 108, 101, 116, 32, 40, 120, 41, 10] := by decide
theorem li_ov : (ovF [40, 108, 101, 116, 32, 40, 120, 41, 10] 9) = ⟨[0], 0, 0, false, 0, false⟩ := by decide
theorem li_b10 : lineB liC 1 10 = 10 := by decide
theorem li_b1 : lineB liC 1 1 = 1 := by decide
theorem li_e1 : lineE liC 12 1 = 9 := by decide
theorem li_c1 : colN widN liC 8 1 1 = 0 := by decide
abbrev vv1 (b : Nat) : Value := .agg #[.pointer (some ⟨b, 0, none⟩), .int .i64 1, .int .i64 12, .int .i64 8]
theorem li_text : (⟨#[108, 101, 116]⟩ : ByteArray) ≠ ⟨#[]⟩ := by decide
set_option maxRecDepth 100000 in
set_option maxHeartbeats 4000000 in
theorem lisp_ok {N : Nat} (hT : Tabs N w) (hL : LspT w tb bs ms mo) (h : BufT w b g S liC) (hlo : S.lo = 1) (hhi : S.hi = 12) :
    Calls Tryz.prog 13 #[pAt b, pAt tb, .int .i64 10, .int .i64 8] w fun e w' => e = .returned (.tuple #[.int .i64 2, .int .i64 0]) ∧ Below w.heap.size w w' := by
  have hr := h.r
  rw [hlo, hhi] at hr
  have bg : ∀ w', Below w.heap.size w w' → Calls Tryz.prog 55 #[vv1 b, .int .i64 10] w' fun e w'' => e = .returned (.int .i64 10) ∧ Below w'.heap.size w' w'' := fun w' hb => by
    have q := vbegin (hr.up hb) 8 10 (by omega) (by omega) (by omega); rw [li_b10] at q; exact q
  have en : ∀ w', Below w.heap.size w w' → Calls Tryz.prog 61 #[vv1 b, .int .i64 1] w' fun e w'' => e = .returned (.int .i64 9) ∧ Below w'.heap.size w' w'' := fun w' hb => by
    have q := vend (hr.up hb) 8 1 (by omega) (by omega); rw [li_e1] at q; exact q
  have co : ∀ w', Below w.heap.size w w' → Calls Tryz.prog 57 #[vv1 b, .int .i64 1] w' fun e w'' => e = .returned (.int .i64 0) ∧ Below w'.heap.size w' w'' := fun w' hb => by
    have q := vcolumn (hr.up hb) 8 1 (by omega) (by omega) (by omega) (by omega); rw [li_b1, li_c1] at q; exact q
  have t1 : ∀ w', Below w.heap.size w w' → Calls Tryz.prog 53 #[pAt b, .int .i64 1, .int .i64 10] w' fun e w'' => e = .returned (.tuple #[.string ⟨#[40, 108, 101, 116, 32, 40, 120, 41, 10]⟩, .int .i64 0]) ∧ Below w'.heap.size w' w'' := fun w' hb => by
    have q := bText_ok (h.up hb) 1 10 (by omega) (by omega) (by omega); rw [li_pre] at q; exact q
  have t2 : ∀ w', Below w.heap.size w w' → Calls Tryz.prog 53 #[pAt b, .int .i64 2, .int .i64 5] w' fun e w'' => e = .returned (.tuple #[.string ⟨#[108, 101, 116]⟩, .int .i64 0]) ∧ Below w'.heap.size w' w'' := fun w' hb => by
    have q := bText_ok (h.up hb) 2 5 (by omega) (by omega) (by omega); rw [li_let] at q; exact q
  have ch : ∀ w', Below w.heap.size w w' → ∀ k : Nat, 1 ≤ k → k ≤ 10 → Calls Tryz.prog 62 #[pAt b, .int .i64 k] w' fun e w'' => e = .returned (.tuple #[.int .i64 (chr liC k : Nat), .bool true]) ∧ Below w'.heap.size w' w'' := fun w' hb k h1 h2 => bchar (hr.up hb) k h1 (Nat.le_trans h2 (by decide))
  have lk : ∀ w' gg, Below w.heap.size w w' → w'.cell? ⟨gg, 0, none⟩ = some (.int .i64 10) → Calls Tryz.prog 44 #[pAt b, .int .i64 8, .bool true, .slice (some ⟨gg, 0, none⟩) 1 1] w' fun e w'' => e = .returned (.tuple #[vv1 b, .int .i64 0]) ∧ Below w'.heap.size w' w'' := fun w' gg hb hx => look_ok (hr.up hb) 8 10 gg 1 hx (by omega) (by omega)
  have ov : ∀ w', Below w.heap.size w w' → Calls Tryz.prog 60 #[pAt tb, .string ⟨#[40, 108, 101, 116, 32, 40, 120, 41, 10]⟩, .int .i64 0, .int .i64 9, .agg (stC (.slice none 0 0) 0 0 0 false false)] w' fun e w'' => ∃ g o cap, e = .returned (.tuple #[.agg (stC (.slice (some ⟨g, o, none⟩) 1 cap) 0 0 0 false false), .int .i64 0]) ∧ w''.cell? ⟨g, o, none⟩ = some (.int .i64 0) ∧ Below w'.heap.size w' w'' := fun w' hb => by
    have q := over_ok (hT.up hb) (hL.up hb) ⟨#[40, 108, 101, 116, 32, 40, 120, 41, 10]⟩ (by decide) li_val 9 (by decide)
    rw [li_chrs, li_ov] at q
    refine q.mono ?_
    rintro e w'' ⟨v, rfl, hown, hb'⟩
    obtain ⟨A, cap, rfl, _, _, hRS⟩ := hown.shape eltI
    obtain ⟨g, o, rfl, _, hc⟩ := hRS (by simp)
    exact ⟨g, o, cap, rfl, hc 0 _ rfl, hb'⟩
  have rl : ∀ w', Below w.heap.size w w' → Calls Tryz.prog 52 #[.string ⟨#[40, 108, 101, 116, 32, 40, 120, 41, 10]⟩] w' fun e w'' => e = .returned (.int .i64 9) ∧ Below w'.heap.size w' w'' := fun w' hb => by
    have q := runesLen ⟨#[40, 108, 101, 116, 32, 40, 120, 41, 10]⟩ w' (by decide) (hT.up hb); rw [li_len] at q; exact q
  have cl : ∀ w', Below w.heap.size w w' → ∀ k : Nat, 1 ≤ k → k ≤ 10 → Calls Tryz.prog 63 #[pAt tb, .int .i64 (chr liC k : Nat)] w' fun e w'' => e = .returned (.int .i64 (lispC (chr liC k))) ∧ Below w'.heap.size w' w'' := fun w' hb k h1 h2 => class_ok (hL.up hb) _ (chr_isN hr k h1 (Nat.le_trans h2 (by decide)))
  have cc : ∀ z c q : Int, (z = 2 ∧ c = 108 ∧ q = 1) ∨ (z = 3 ∧ c = 101 ∧ q = 1) ∨ (z = 4 ∧ c = 116 ∧ q = 1) ∨ (z = 5 ∧ c = 32 ∧ q = 3) → (∀ w', Below w.heap.size w w' → Calls Tryz.prog 62 #[pAt b, .int .i64 z] w' fun e w'' => e = .returned (.tuple #[.int .i64 c, .bool true]) ∧ Below w'.heap.size w' w'') ∧ (∀ w', Below w.heap.size w w' → Calls Tryz.prog 63 #[pAt tb, .int .i64 c] w' fun e w'' => e = .returned (.int .i64 q) ∧ Below w'.heap.size w' w'') := by
    rintro z c q (⟨rfl, rfl, rfl⟩ | ⟨rfl, rfl, rfl⟩ | ⟨rfl, rfl, rfl⟩ | ⟨rfl, rfl, rfl⟩)
    · refine ⟨fun w' hb => ?_, fun w' hb => ?_⟩
      · have q := ch w' hb 2 (by omega) (by omega); rw [show chr liC 2 = 108 by decide] at q; exact q
      · have q := cl w' hb 2 (by omega) (by omega); rw [show chr liC 2 = 108 by decide, show lispC 108 = 1 by decide] at q; exact q
    · refine ⟨fun w' hb => ?_, fun w' hb => ?_⟩
      · have q := ch w' hb 3 (by omega) (by omega); rw [show chr liC 3 = 101 by decide] at q; exact q
      · have q := cl w' hb 3 (by omega) (by omega); rw [show chr liC 3 = 101 by decide, show lispC 101 = 1 by decide] at q; exact q
    · refine ⟨fun w' hb => ?_, fun w' hb => ?_⟩
      · have q := ch w' hb 4 (by omega) (by omega); rw [show chr liC 4 = 116 by decide] at q; exact q
      · have q := cl w' hb 4 (by omega) (by omega); rw [show chr liC 4 = 116 by decide, show lispC 116 = 1 by decide] at q; exact q
    · refine ⟨fun w' hb => ?_, fun w' hb => ?_⟩
      · have q := ch w' hb 5 (by omega) (by omega); rw [show chr liC 5 = 32 by decide] at q; exact q
      · have q := cl w' hb 5 (by omega) (by omega); rw [show chr liC 5 = 32 by decide, show lispC 32 = 3 by decide] at q; exact q
  have BG := Lib.hid bg
  have EN := Lib.hid en
  have CO := Lib.hid co
  have T1 := Lib.hid t1
  have T2 := Lib.hid t2
  have CC := Lib.hid cc
  have LK := Lib.hid lk
  have OV := Lib.hid ov
  have RL := Lib.hid rl
  have HL := Lib.hid hL
  clear bg en co t1 t2 cc ch lk ov rl cl hr h hT hL hlo hhi
  go_enter Tryz.func13, Tryz.ntmps13
  go_wp2_with fail
  refine (tcopy_ok HL.out).mono ?_
  rintro e w1 ⟨k, rfl, hb1⟩
  have B1 := Lib.hid hb1
  clear hb1
  go_wp2_with fail
  refine (tabbed_ok 8 (by omega) (by omega) w1).mono ?_
  rintro e w2 ⟨rfl, rfl⟩
  go_wp2_with fail
  have HB0 := Lib.hid (up2 B1.out (below1 w1 (.cells #[.int .i64 10] 3)))
  have hc := (MapKept.heap_alloc w1 (.cells #[.int .i64 10] 3)).1
  generalize w1.alloc (.cells #[.int .i64 10] 3) = W at *
  refine (LK.out W _ HB0.out (by simp only [World.cell?, hc]; rfl)).mono ?_
  rintro e w2 ⟨rfl, hb2⟩
  have B2 := Lib.hid (up2 HB0.out hb2)
  clear hb2 hc HB0
  go_wp2_with fail
  have hB3 := below1 w2 (.cells #[.pointer (some ⟨b, 0, none⟩), .int .i64 1, .int .i64 12, .int .i64 8] 71)
  have hv := VwI.made w2 b 1 12 8 (T := 71)
  have B3 := Lib.hid (up2 B2.out hB3)
  have hvk : w2.heap.size < (w2.alloc (.cells #[.pointer (some ⟨b, 0, none⟩), .int .i64 1, .int .i64 12, .int .i64 8] 71)).heap.size := by simp
  change VwI (w2.alloc (.cells #[.pointer (some ⟨b, 0, none⟩), .int .i64 1, .int .i64 12, .int .i64 8] 71)) w2.heap.size b 1 12 8 at hv
  generalize w2.alloc (.cells #[.pointer (some ⟨b, 0, none⟩), .int .i64 1, .int .i64 12, .int .i64 8] 71) = W3 at *
  clear hB3
  have HV := Lib.hid hv
  have v0 := fun (x : UpW W3.heap.size W3) => (hv.up x.up).c0
  have v1 : ∀ (x : UpW W3.heap.size W3), x.w.cell? ⟨w2.heap.size, 1, none⟩ = some (.int .i64 1) := fun x => (hv.up x.up).c1
  have v2 : ∀ (x : UpW W3.heap.size W3), x.w.cell? ⟨w2.heap.size, 2, none⟩ = some (.int .i64 12) := fun x => (hv.up x.up).c2
  have v3 : ∀ (x : UpW W3.heap.size W3), x.w.cell? ⟨w2.heap.size, 3, none⟩ = some (.int .i64 8) := fun x => (hv.up x.up).c3
  clear hv
  refine wp_region_up W3.heap.size (by kernel_rfl) (by kernel_rfl) ?_
  repeat (go_big_quiet_step (first | exact Calls.up ‹_› (Nat.le_refl _) (BG.out _ (up2 B3.out (UpW.up ‹_›))) | exact Calls.up ‹_› (Nat.le_refl _) (T1.out _ (up2 B3.out (UpW.up ‹_›)))))
  refine wpQuiet_nil ?_
  rintro ⟨w4, hb4⟩
  dsimp only
  clear v0 v1 v2 v3
  have B4 := Lib.hid (up2 B3.out hb4)
  have V4 := Lib.hid (HV.out.up hb4)
  clear HV hb4
  go_wp2_with fail
  refine (RL.out w4 B4.out).mono ?_
  rintro e w5 ⟨rfl, hb5⟩
  have B5 := Lib.hid (up2 B4.out hb5)
  have V5 := Lib.hid (V4.out.up hb5)
  clear hb5 V4 B4
  go_wp2_with fail
  refine (OV.out w5 B5.out).mono ?_
  rintro e w6 ⟨gA, oA, cap, rfl, hA, hb6⟩
  have hAl := lt_of_cell hA
  have B6 := Lib.hid (up2 B5.out hb6)
  have V6 := Lib.hid (V5.out.up hb6)
  clear hb6 V5 B5
  go_wp2_with fail
  have hk7 := Blk.made w6 90 (stC (.slice (some ⟨gA, oA, none⟩) 1 cap) 0 0 0 false false)
  have hB7 := below1 w6 (.cells (stC (.slice (some ⟨gA, oA, none⟩) 1 cap) 0 0 0 false false) 90)
  have hA7 := cell_up hA hB7
  have V7 := Lib.hid (V6.out.up hB7)
  have B7 := Lib.hid (up2 B6.out hB7)
  generalize w6.alloc (.cells (stC (.slice (some ⟨gA, oA, none⟩) 1 cap) 0 0 0 false false) 90) = W7 at *
  have c0 := hk7.cell (j := 0) rfl
  have c2 := hk7.cell (j := 2) rfl
  go_wp2_with fail
  have x0 : ∀ (x : UpW W7.heap.size W7), x.w.cell? ⟨w6.heap.size, 0, none⟩ = some (.slice (some ⟨gA, oA, none⟩) 1 cap) := fun x => (hk7.up x.up).cell (j := 0) rfl
  have x1 : ∀ (x : UpW W7.heap.size W7), x.w.cell? ⟨w2.heap.size, 1, none⟩ = some (.int .i64 1) := fun x => (V7.out.up x.up).c1
  have x2 : ∀ (x : UpW W7.heap.size W7), x.w.cell? ⟨gA, oA, none⟩ = some (.int .i64 0) := fun x => cell_up hA7 x.up
  refine wp_region_up W7.heap.size (by kernel_rfl) (by kernel_rfl) ?_
  repeat (go_big_quiet_step (fail))
  refine wpQuiet_nil ?_
  rintro ⟨w8, hb8⟩
  dsimp only
  have V8 := Lib.hid (V7.out.up hb8)
  have B8 := Lib.hid (up2 B7.out hb8)
  clear x0 x1 x2 hb8 c0 c2 hk7 hA7 V7 V6 B7 B6
  go_wp2_with fail
  have v0 := fun (x : UpW w8.heap.size w8) => (V8.out.up x.up).c0
  have v1 : ∀ (x : UpW w8.heap.size w8), x.w.cell? ⟨w2.heap.size, 1, none⟩ = some (.int .i64 1) := fun x => (V8.out.up x.up).c1
  have v2 : ∀ (x : UpW w8.heap.size w8), x.w.cell? ⟨w2.heap.size, 2, none⟩ = some (.int .i64 12) := fun x => (V8.out.up x.up).c2
  have v3 : ∀ (x : UpW w8.heap.size w8), x.w.cell? ⟨w2.heap.size, 3, none⟩ = some (.int .i64 8) := fun x => (V8.out.up x.up).c3
  refine wp_region_up w8.heap.size (by kernel_rfl) (by kernel_rfl) ?_
  repeat (go_big_quiet_step (first | exact Calls.up ‹_› (Nat.le_refl _) (CO.out _ (up2 B8.out (UpW.up ‹_›))) | exact Calls.up ‹_› (Nat.le_refl _) (EN.out _ (up2 B8.out (UpW.up ‹_›)))))
  refine wpQuiet_nil ?_
  rintro ⟨w9, hb9⟩
  dsimp only
  clear v0 v1 v2 v3
  have B9 := Lib.hid (up2 B8.out hb9)
  clear hb9 B8 V8
  go_wp2_with fail
  go_loopw [18, 19, 20, 21] (fun va vb vc vd wr => ∃ z : Int, (z = 2 ∨ z = 3 ∨ z = 4 ∨ z = 5) ∧ va = .int .i64 z ∧ Below w.heap.size w wr) (fun va _ _ _ _ => 10 - (intOf va).toNat)
  case atStart => exact ⟨2, .inl rfl, rfl, B9.out⟩
  case round =>
    obtain ⟨z, hz, rfl, hbw⟩ := hrel
    have HBW := Lib.hid hbw
    clear hbw
    rcases hz with rfl | rfl | rfl | rfl
    · obtain ⟨e1, e2⟩ := CC.out 2 108 1 (.inl ⟨rfl, rfl, rfl⟩)
      have E1 := Lib.hid e1
      have E2 := Lib.hid e2
      clear e1 e2
      go_wp2_with fail
      refine (E1.out _ HBW.out).mono ?_
      rintro e u1 ⟨rfl, hu1⟩
      have U1 := Lib.hid (up2 HBW.out hu1)
      clear hu1
      go_wp2_with fail
      refine (E2.out _ U1.out).mono ?_
      rintro e u2 ⟨rfl, hu2⟩
      have U2 := Lib.hid (up2 U1.out hu2)
      clear hu2
      go_wp2_with fail
      refine ⟨⟨3, .inr (.inl rfl), rfl, U2.out⟩, ?_⟩
      simp [intOf]
    · obtain ⟨e1, e2⟩ := CC.out 3 101 1 (.inr (.inl ⟨rfl, rfl, rfl⟩))
      have E1 := Lib.hid e1
      have E2 := Lib.hid e2
      clear e1 e2
      go_wp2_with fail
      refine (E1.out _ HBW.out).mono ?_
      rintro e u1 ⟨rfl, hu1⟩
      have U1 := Lib.hid (up2 HBW.out hu1)
      clear hu1
      go_wp2_with fail
      refine (E2.out _ U1.out).mono ?_
      rintro e u2 ⟨rfl, hu2⟩
      have U2 := Lib.hid (up2 U1.out hu2)
      clear hu2
      go_wp2_with fail
      refine ⟨⟨4, .inr (.inr (.inl rfl)), rfl, U2.out⟩, ?_⟩
      simp [intOf]
    · obtain ⟨e1, e2⟩ := CC.out 4 116 1 (.inr (.inr (.inl ⟨rfl, rfl, rfl⟩)))
      have E1 := Lib.hid e1
      have E2 := Lib.hid e2
      clear e1 e2
      go_wp2_with fail
      refine (E1.out _ HBW.out).mono ?_
      rintro e u1 ⟨rfl, hu1⟩
      have U1 := Lib.hid (up2 HBW.out hu1)
      clear hu1
      go_wp2_with fail
      refine (E2.out _ U1.out).mono ?_
      rintro e u2 ⟨rfl, hu2⟩
      have U2 := Lib.hid (up2 U1.out hu2)
      clear hu2
      go_wp2_with fail
      refine ⟨⟨5, .inr (.inr (.inr rfl)), rfl, U2.out⟩, ?_⟩
      simp [intOf]
    · obtain ⟨e1, e2⟩ := CC.out 5 32 3 (.inr (.inr (.inr ⟨rfl, rfl, rfl⟩)))
      have E1 := Lib.hid e1
      have E2 := Lib.hid e2
      clear e1 e2
      go_wp2_with fail
      refine (E1.out _ HBW.out).mono ?_
      rintro e u1 ⟨rfl, hu1⟩
      have U1 := Lib.hid (up2 HBW.out hu1)
      clear hu1
      go_wp2_with fail
      refine (E2.out _ U1.out).mono ?_
      rintro e u2 ⟨rfl, hu2⟩
      have U2 := Lib.hid (up2 U1.out hu2)
      clear hu2
      go_wp2_with fail
      refine (T2.out _ U2.out).mono ?_
      rintro e u3 ⟨rfl, hu3⟩
      have U3 := Lib.hid (up2 U2.out hu3)
      clear hu3
      go_wp2_with fail
      refine (body_ok _).mono ?_
      rintro e u4 ⟨rfl, rfl⟩
      go_wp2_with fail
      go_ret2
      exact ⟨rfl, U3.out⟩
end
end Go.Proofs.YtcfdalmllegefaaGreatDoor
/- copyistlaw24: lives. -/
namespace Go.Proofs.YtcfdalmllegefaaGreatDoor
open Go.RowKit
set_option linter.unusedVariables false
set_option linter.unusedSimpArgs false
section
variable {w w' : World}
theorem lv_a : chrs ⟨#[97, 9, 98]⟩ = [97, 9, 98] := by decide
theorem lv_b : chrs ⟨#[40, 108, 101, 116, 32, 40, 120, 41, 10, 121, 41]⟩ = liC := by decide
theorem lv_c : colN widN [97, 9, 98] 8 (lineB [97, 9, 98] 1 3) 3 = 8 := by decide
theorem lv_s : seekN widN [97, 9, 98] 8 (lineB [97, 9, 98] 1 1) (lineE [97, 9, 98] 4 1) 5 = 3 := by decide
theorem lv_t : colN widN [97, 9, 98] 8 (lineB [97, 9, 98] 1 1) 3 = 8 := by decide
set_option maxHeartbeats 4000000 in
theorem lives_true {N : Nat} (hT : Tabs N w) (hR : Rules N w) (hN : N ≤ w.heap.size) :
    Calls Tryz.prog 6 #[] w fun r w' => r = .returned (.bool true) ∧ Below w.heap.size w w' := by
  have HT := Lib.hid hT
  have HR := Lib.hid hR
  clear hT hR
  go_enter Tryz.func6, Tryz.ntmps6
  go_wp2_with fail
  have h1 := of_ok HT.out HR.out hN ⟨#[97, 9, 98]⟩ (by decide) (by decide)
  rw [lv_a] at h1
  refine h1.mono ?_
  rintro e w1 ⟨b, g, S, rfl, hb1, hbt, hlo, hhi, hpt, hx1, hx2, hx3⟩
  have hr := hbt.r
  rw [hlo, hhi] at hr
  have cq : ∀ w', Below w1.heap.size w1 w' → Calls Tryz.prog 16 #[pAt b, .int .i64 3, .int .i64 8] w' fun e w'' => e = .returned (.tuple #[.int .i64 8, .int .i64 0]) ∧ Below w'.heap.size w' w'' := fun w' hb => by
    have q := column_ok (hr.up hb) 3 8 (by omega) (by omega) (by omega) (by simp)
    rw [lv_c] at q; exact q
  have sq : ∀ w', Below w1.heap.size w1 w' → Calls Tryz.prog 15 #[pAt b, .int .i64 1, .int .i64 5, .int .i64 8] w' fun e w'' => e = .returned (.tuple #[.int .i64 3, .int .i64 8, .int .i64 0]) ∧ Below w'.heap.size w' w'' := fun w' hb => by
    have q := seek_ok (hr.up hb) 1 8 5 (by omega) (by omega) (by omega) (by simp)
    rw [show 1 + [97, 9, 98].length = 4 from rfl, lv_s, lv_t] at q; exact q
  have CQ := Lib.hid cq
  have SQ := Lib.hid sq
  have B1 := Lib.hid hb1
  have z1 := hb1.size
  clear cq sq hr hbt hlo hhi hpt hx1 hx2 hx3 hb1 h1
  go_wp2_with fail
  have h1 := of_ok ((HT.out.up B1.out).low hN) ((HR.out.up B1.out).low hN) (by omega) ⟨#[40, 108, 101, 116, 32, 40, 120, 41, 10, 121, 41]⟩ (by decide) (by decide)
  rw [lv_b] at h1
  refine h1.mono ?_
  rintro e w2 ⟨c, g2, S2, rfl, hb2, hbt, hlo, hhi, hpt, hx1, hx2, hx3⟩
  have T2 := Lib.hid ((HT.out.up B1.out).up hb2)
  have H2 := Lib.hid hbt
  have L2 := Lib.hid hlo
  have I2 := Lib.hid hhi
  have B2 := Lib.hid hb2
  clear hbt hlo hhi hpt hx1 hx2 hx3 hb2 h1 z1
  go_wp2_with fail
  refine (CQ.out w2 B2.out).mono ?_
  rintro e w3 ⟨rfl, hb3⟩
  have B3 := Lib.hid hb3
  clear hb3
  go_wp2_with fail
  refine (SQ.out w3 (up2 B2.out B3.out)).mono ?_
  rintro e w4 ⟨rfl, hb4⟩
  have B4 := Lib.hid (up2 B3.out hb4)
  clear hb4
  go_wp2_with fail
  refine (synLisp w4).mono ?_
  rintro e w5 ⟨tb, bs, ms, mo, rfl, hb5, hl5⟩
  have B5 := Lib.hid (up2 B4.out hb5)
  have HL := Lib.hid hl5
  clear hb5 hl5
  go_wp2_with fail
  refine (lisp_ok (T2.out.up B5.out) HL.out (H2.out.up B5.out) L2.out I2.out).mono ?_
  rintro e w6 ⟨rfl, hb6⟩
  have B6 := Lib.hid (up2 B5.out hb6)
  clear hb6
  go_wp2_with fail
  go_ret
  exact ⟨rfl, up2 B1.out (up2 B2.out B6.out)⟩
end
end Go.Proofs.YtcfdalmllegefaaGreatDoor
