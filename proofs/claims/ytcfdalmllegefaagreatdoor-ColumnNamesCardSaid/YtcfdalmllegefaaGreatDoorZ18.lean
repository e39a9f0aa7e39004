import Derived.Test.YtcfdalmllegefaaGreatDoorZ17
import Derived.Test.YtcfdalmllegefaaGreatDoorZ10
import Derived.Shelf.Strings.SlTrimAscii
import Derived.Shelf.Strings.Prefix
import Derived.Test.YtcfdalmllegefaaGreatDoorZ02
/- A plain buffer in plain Lean: what an edit makes of it. -/
namespace Go.Proofs.YtcfdalmllegefaaGreatDoor
open Go.RowKit Go.Lib
set_option linter.unusedVariables false
set_option linter.unusedSimpArgs false
/-- All of the text is accessible; the buffer is not read-only. -/
structure Wide (T : Tx) : Prop where
  lo : T.S.lo = 1
  hi : T.S.hi = T.cs.length + 1
  ro : T.S.ro = false
theorem insN_zero {a x : Nat} {p : Bool} : insN a 0 x p = x := by unfold insN; split <;> omega
theorem putT_cs (T : Tx) (a : Nat) (s : List Nat) (bf : Bool) : (putT T a s bf).cs = insC T.cs a s := by
  unfold putT
  split
  · rename_i h
    have e : s = [] := List.eq_nil_of_length_eq_zero h
    subst e; unfold insC; simp
  · rfl
theorem putT_pt (T : Tx) (a : Nat) (s : List Nat) (bf : Bool) : (putT T a s bf).S.pt = insN a s.length T.S.pt bf := by
  unfold putT
  split
  · rename_i h; rw [h, insN_zero]
  · rfl
theorem delN_same {x p : Nat} : delN x x p = p := by unfold delN; (repeat' split) <;> omega
theorem delC_same (cs : List Nat) (x : Nat) : delC cs x x = cs := by unfold delC; simp
theorem takeT_cs (T : Tx) (x y : Nat) : (takeT T x y).cs = delC T.cs x y := by
  unfold takeT
  split
  · rename_i h; subst h; rw [delC_same]
  · rfl
theorem takeT_pt (T : Tx) (x y : Nat) : (takeT T x y).S.pt = delN x y T.S.pt := by
  unfold takeT
  split
  · rename_i h; subst h; rw [delN_same]
  · rfl
theorem Wide.put {T : Tx} (h : Wide T) {a : Nat} {s : List Nat} {bf : Bool} (h1 : 1 ≤ a) (h2 : a ≤ T.cs.length + 1) : Wide (putT T a s bf) := by
  have hl := h.lo; have hh := h.hi
  unfold putT
  split
  · exact h
  · refine ⟨?_, ?_, h.ro⟩
    · show insN a s.length T.S.lo false = 1
      unfold insN; rw [if_neg (by rintro (q | q); omega; exact absurd q.2 (by simp))]; exact hl
    · show insN a s.length T.S.hi true = (insC T.cs a s).length + 1
      rw [insC_len]
      unfold insN
      rw [if_pos (by rcases Nat.lt_or_ge a T.S.hi with q | q; exact .inl q; exact .inr ⟨by omega, rfl⟩)]; omega
theorem Wide.take {T : Tx} (h : Wide T) {x y : Nat} (h1 : 1 ≤ x) (h2 : x ≤ y) (h3 : y ≤ T.cs.length + 1) : Wide (takeT T x y) := by
  have hl := h.lo; have hh := h.hi
  unfold takeT
  split
  · exact h
  · rename_i hne
    refine ⟨?_, ?_, h.ro⟩
    · show delN x y T.S.lo = 1
      unfold delN; rw [if_neg (by omega), if_neg (by omega)]; exact hl
    · show delN x y T.S.hi = (delC T.cs x y).length + 1
      rw [delC_len h1 h2 h3]
      unfold delN; rw [if_pos (by omega)]; omega
theorem Wide.pt {T : Tx} (h : Wide T) (p : Nat) : Wide { T with S := { T.S with pt := p } } := ⟨h.lo, h.hi, h.ro⟩
theorem Wide.ins {T : Tx} (h : Wide T) {s : List Nat} {bf : Bool} (h1 : 1 ≤ T.S.pt) (h2 : T.S.pt ≤ T.cs.length + 1) : Wide (insT T s bf) := (h.put h1 h2).pt _
theorem Wide.rep {T : Tx} (h : Wide T) {x y : Nat} {s : List Nat} (h1 : 1 ≤ x) (h2 : x ≤ y) (h3 : y ≤ T.cs.length + 1) : Wide (repT T x y s) :=
  (h.take h1 h2 h3).put h1 (by rw [takeT_len h1 h2 h3]; omega)
/-- The three parts. -/
def head3 (T : Tx) (x : Nat) : ByteArray := encS (subL T.cs 1 x)
def tail3 (T : Tx) (y : Nat) : ByteArray := encS (subL T.cs y (T.cs.length + 1))
theorem subL_head (cs : List Nat) (x : Nat) : subL cs 1 x = cs.take (x - 1) := by unfold subL; simp
theorem subL_tail (cs : List Nat) {y : Nat} (h : 1 ≤ y) : subL cs y (cs.length + 1) = cs.drop (y - 1) := by
  unfold subL; rw [List.take_of_length_le (by simp; omega)]
theorem parts_put (T : Tx) {a : Nat} {s : ByteArray} {bf : Bool} (h1 : 1 ≤ a) (hv : (charsD s.data.toList).isSome = true) : head3 T a ++ s ++ tail3 T a = encS (putT T a (chrs s) bf).cs := by
  unfold head3 tail3
  rw [putT_cs, subL_head, subL_tail _ h1]
  conv => lhs; rw [← encS_chrs hv]
  rw [encS_append, encS_append]; rfl
theorem parts_ins (T : Tx) {s : ByteArray} {bf : Bool} (h1 : 1 ≤ T.S.pt) (hv : (charsD s.data.toList).isSome = true) : head3 T T.S.pt ++ s ++ tail3 T T.S.pt = encS (insT T (chrs s) bf).cs := parts_put T h1 hv
theorem parts_take (T : Tx) {x y : Nat} (h1 : 1 ≤ x) (hxy : x ≤ y) : head3 T x ++ ⟨#[]⟩ ++ tail3 T y = encS (takeT T x y).cs := by
  unfold head3 tail3
  rw [takeT_cs, subL_head, subL_tail _ (by omega), show (⟨#[]⟩ : ByteArray) = encS [] from rfl, encS_append, encS_append, List.append_nil]; rfl
theorem parts_rep (T : Tx) {x y : Nat} {s : ByteArray} (h1 : 1 ≤ x) (hxy : x ≤ y) (hy : y ≤ T.cs.length + 1) (hv : (charsD s.data.toList).isSome = true) : head3 T x ++ s ++ tail3 T y = encS (repT T x y (chrs s)).cs := by
  unfold head3 tail3 repT
  rw [putT_cs, takeT_cs, subL_head, subL_tail _ (by omega)]
  conv => lhs; rw [← encS_chrs hv]
  rw [encS_append, encS_append]
  congr 1
  unfold insC delC
  rw [List.take_append_of_le_length (by simp; omega), List.drop_append_of_le_length (by simp; omega), List.take_take]
  simp
theorem repT_pt (T : Tx) (x y : Nat) (s : List Nat) : (repT T x y s).S.pt = insN x s.length (delN x y T.S.pt) false := by unfold repT; rw [putT_pt, takeT_pt]
/-- What fits answers for short strings. -/
theorem fits_short {T : Tx} {s : ByteArray} (hl : T.cs.length ≤ 10000) (hs : s.size ≤ 60) {less : Int} (h0 : 0 ≤ less) : fitsE s T.cs.length less = if (charsD s.data.toList).isSome = true then 0 else 5 := by
  have := chrs_len s
  unfold fitsE
  rw [vld_chars]
  by_cases hv : (charsD s.data.toList).isSome = true
  · rw [if_pos hv, if_pos hv, rlenG_chars hv, if_neg (by omega)]
  · rw [if_neg hv, if_neg hv]
end Go.Proofs.YtcfdalmllegefaaGreatDoor
/- A plain buffer in plain Lean: undoing one replacement gives the text back. -/
namespace Go.Proofs.YtcfdalmllegefaaGreatDoor
open Go.RowKit Go.Lib
set_option linter.unusedVariables false
set_option linter.unusedSimpArgs false
/-- What a change that is undone makes of the text. -/
def revCs (cs : List Nat) (c : Chg) : List Nat := if c.k = 1 then delC cs c.a.toNat c.b.toNat else if c.k = 2 then insC cs c.a.toNat (chrs c.tx) else cs
theorem revT_cs (T : Tx) (c : Chg) : (revT T c).cs = revCs T.cs c := by
  unfold revT revCs
  split
  · exact takeT_cs _ _ _
  · split
    · exact putT_cs _ _ _ _
    · split <;> rfl
theorem revsT_cs : ∀ (T : Tx) (L : List Chg), (revsT T L).cs = L.foldl revCs T.cs
  | T, [] => rfl
  | T, c :: L => by
    show (revsT (revT T c) L).cs = _
    rw [revsT_cs, revT_cs]; rfl
def RevOkC (cs : List Nat) (c : Chg) : Prop :=
  (c.k = 1 ∧ 1 ≤ c.a ∧ c.a ≤ c.b ∧ c.b ≤ cs.length + 1) ∨ (c.k = 2 ∧ 1 ≤ c.a ∧ c.a ≤ cs.length + 1 ∧ (charsD c.tx.data.toList).isSome = true ∧ c.tx.size ≤ 262144 ∧ cs.length + (chrs c.tx).length ≤ 65536) ∨ (c.k = 4 ∧ 0 ≤ c.a) ∨ c.k = 6
def RevsOkC : List Nat → List Chg → Prop
  | _, [] => True
  | cs, c :: L => RevOkC cs c ∧ RevsOkC (revCs cs c) L
theorem revs_of : ∀ (T : Tx) (L : List Chg), RevsOkC T.cs L → RevsOk T L
  | T, [], _ => trivial
  | T, c :: L, h => ⟨h.1, revs_of (revT T c) L (by rw [revT_cs]; exact h.2)⟩
theorem mergeB_no {O : List Chg} {c : Chg} (h : ¬ c.k = 1 ∨ ¬ (O.getLastD chg0).k = 1) : mergeB O c = false := by
  unfold mergeB
  cases hL : O.getLast? with
  | none => rfl
  | some x =>
    have hx : O.getLastD chg0 = x := by rw [List.getLastD_eq_getLast?, hL]; rfl
    rcases h with h | h
    · simp [h]
    · rw [hx] at h; simp [h]
theorem logAdd_no {O : List Chg} {c : Chg} (h : ¬ c.k = 1 ∨ ¬ (O.getLastD chg0).k = 1) : logAdd O c = O ++ [c] := by
  unfold logAdd; rw [mergeB_no h]; simp
/-- What the first note of a group lays before it. -/
def notePre (S : BS) : List Chg := (if S.tick = S.clean then [cleanC] else []) ++ [pointC S.pt]
theorem noteO_first {S : BS} {c : Chg} (he : S.empty = true) : noteO S [] c = notePre S ++ [c] := by
  unfold noteO notePre
  rw [if_pos he]
  have e0 : logAdd ([] : List Chg) cleanC = [cleanC] := logAdd_no (.inl (by decide))
  split
  · rename_i h
    rw [e0, logAdd_no (c := pointC S.pt) (.inl (by simp)), logAdd_no (c := c) (.inr (by simp))]
  · rename_i h
    rw [logAdd_no (c := pointC S.pt) (.inl (by simp)), logAdd_no (c := c) (.inr (by simp))]
theorem noteO_next {S : BS} {O : List Chg} {c : Chg} (he : S.empty = false) (h : ¬ c.k = 1 ∨ ¬ (O.getLastD chg0).k = 1) : noteO S O c = O ++ [c] := by
  unfold noteO; rw [if_neg (by rw [he]; simp)]; exact logAdd_no h
theorem npre_ok (S : BS) (cs : List Nat) : RevsOkC cs (notePre S).reverse ∧ (notePre S).reverse.foldl revCs cs = cs ∧ revsC (notePre S).reverse ≤ 8 ∧ (notePre S).length ≤ 2 := by
  unfold notePre
  split
  · refine ⟨⟨.inr (.inr (.inl ⟨rfl, by simp⟩)), .inr (.inr (.inr rfl)), trivial⟩, rfl, by simp [revsC, revC], by simp⟩
  · refine ⟨⟨.inr (.inr (.inl ⟨rfl, by simp⟩)), trivial⟩, rfl, by simp [revsC, revC], by simp⟩
theorem del_ins (cs s : List Nat) {x : Nat} (h1 : 1 ≤ x) (h2 : x ≤ cs.length + 1) : delC (insC cs x s) x (x + s.length) = cs := by
  have e1 : (cs.take (x - 1)).length = x - 1 := by simp; omega
  unfold delC insC
  rw [List.append_assoc, List.take_append_of_le_length (by omega), List.take_take, Nat.min_self]
  rw [show x + s.length - 1 = (x - 1) + s.length by omega, ← List.drop_drop, List.drop_append_of_le_length (by omega), List.drop_take_self]
  rw [List.nil_append, List.drop_left, List.take_append_drop]
theorem ins_del (cs : List Nat) {x y : Nat} (h1 : 1 ≤ x) (hxy : x ≤ y) (hy : y ≤ cs.length + 1) : insC (delC cs x y) x (subL cs x y) = cs := by
  have e1 : (cs.take (x - 1)).length = x - 1 := by simp; omega
  unfold insC delC subL
  rw [List.take_append_of_le_length (by omega), List.take_take, Nat.min_self, List.drop_append_of_le_length (by omega), List.drop_take_self, List.nil_append]
  have e2 : cs.drop (y - 1) = (cs.drop (x - 1)).drop (y - x) := by rw [List.drop_drop]; congr 1; omega
  rw [e2, List.append_assoc, List.take_append_drop, List.take_append_drop]
theorem subL_len {cs : List Nat} {x y : Nat} (h1 : 1 ≤ x) (hy : y ≤ cs.length + 1) : (subL cs x y).length = y - x := by unfold subL; simp; omega
/-- Undoing one replacement. -/
theorem undo_rep {T : Tx} {x y : Nat} {s : List Nat} (he : T.S.empty = true) (hO : T.O = []) (h1 : 1 ≤ x) (hxy : x ≤ y) (hy : y ≤ T.cs.length + 1) (hcn : ∀ c ∈ T.cs, isN c) (hlen : T.cs.length ≤ 60000) (hs : s.length ≤ 5000) (hne : ¬ (x = y ∧ s = [])) :
    ∃ g, logShut (repT T x y s).G (repT T x y s).O = T.G ++ [g] ∧ g.length ≤ 4 ∧ RevsOkC (repT T x y s).cs g.reverse ∧ g.reverse.foldl revCs (repT T x y s).cs = T.cs ∧ revsC g.reverse ≤ s.length + 20 := by
  obtain ⟨p1, p2, p3, p4⟩ := npre_ok T.S T.cs
  have hsub := chrs_encS (subL_isN hcn x y)
  have hsz := encS_le (subL T.cs x y)
  have hsl := subL_len (cs := T.cs) h1 hy
  have shut1 : ∀ (G : List (List Chg)) (O : List Chg), O ≠ [] → logShut G O = G ++ [O] := fun G O h => by unfold logShut; rw [if_neg h]
  have rc : ∀ (c : Chg) (L : List Chg), revsC (c :: L) = revC c + revsC L := fun c L => by unfold revsC; simp
  by_cases hs0 : s = []
  · subst hs0
    have hlt : ¬ x = y := fun e => hne ⟨e, rfl⟩
    have hT : repT T x y [] = { T with S := takeS T.S x y, cs := delC T.cs x y, O := noteO T.S T.O (delChg x (encS (subL T.cs x y))) } := by
      unfold repT putT takeT; simp [hlt]
    rw [hT]
    dsimp only
    rw [hO, noteO_first he]
    refine ⟨_, shut1 _ _ (by simp), by simp; omega, ?_, ?_, ?_⟩
    · rw [List.reverse_append]
      refine ⟨.inr (.inl ⟨rfl, by simp; omega, by rw [delC_len h1 hxy hy]; simp; omega, hsub.2, by dsimp only; omega, ?_⟩), ?_⟩
      · rw [delC_len h1 hxy hy, hsub.1, hsl]; omega
      · show RevsOkC (insC (delC T.cs x y) ((x : Int)).toNat (chrs (encS (subL T.cs x y)))) _
        rw [Int.toNat_natCast, hsub.1, ins_del _ h1 hxy hy]; exact p1
    · rw [List.reverse_append, List.foldl_append]
      show List.foldl revCs (insC (delC T.cs x y) ((x : Int)).toNat (chrs (encS (subL T.cs x y)))) _ = _
      rw [Int.toNat_natCast, hsub.1, ins_del _ h1 hxy hy]; exact p2
    · rw [List.reverse_append, show [delChg x (encS (subL T.cs x y))].reverse ++ (notePre T.S).reverse = delChg x (encS (subL T.cs x y)) :: (notePre T.S).reverse from rfl, rc]
      have : revC (delChg x (encS (subL T.cs x y))) = 4 := rfl
      omega
  · have hsp : ¬ s.length = 0 := fun e => hs0 (List.eq_nil_of_length_eq_zero e)
    have hi : ((x + s.length : Nat) : Int).toNat = x + s.length := Int.toNat_natCast _
    by_cases hlt : x = y
    · subst hlt
      have hT : repT T x x s = { T with S := putS T.S x s.length false, cs := insC T.cs x s, O := noteO T.S T.O (insChg x s.length) } := by
        unfold repT putT takeT; simp [hs0]
      rw [hT]
      dsimp only
      rw [hO, noteO_first he]
      refine ⟨_, shut1 _ _ (by simp), by simp; omega, ?_, ?_, ?_⟩
      · rw [List.reverse_append]
        refine ⟨.inl ⟨rfl, by simp; omega, by simp; omega, by rw [insC_len]; simp; omega⟩, ?_⟩
        show RevsOkC (delC (insC T.cs x s) ((x : Int)).toNat ((x + s.length : Nat) : Int).toNat) _
        rw [Int.toNat_natCast, hi, del_ins _ _ h1 hy]; exact p1
      · rw [List.reverse_append, List.foldl_append]
        show List.foldl revCs (delC (insC T.cs x s) ((x : Int)).toNat ((x + s.length : Nat) : Int).toNat) _ = _
        rw [Int.toNat_natCast, hi, del_ins _ _ h1 hy]; exact p2
      · rw [List.reverse_append, show [insChg x s.length].reverse ++ (notePre T.S).reverse = insChg x s.length :: (notePre T.S).reverse from rfl, rc]
        have : revC (insChg x s.length) = s.length + 4 := by
          show ((x + s.length : Nat) : Int).toNat - ((x : Nat) : Int).toNat + 4 = _
          rw [hi, Int.toNat_natCast]; omega
        omega
    · have hT : repT T x y s = { T with S := putS (takeS T.S x y) x s.length false, cs := insC (delC T.cs x y) x s, O := noteO (takeS T.S x y) (noteO T.S T.O (delChg x (encS (subL T.cs x y)))) (insChg x s.length) } := by
        unfold repT putT takeT; simp [hs0, hlt]
      rw [hT]
      dsimp only
      have hdl := delC_len h1 hxy hy
      rw [hO, noteO_first he, noteO_next (S := takeS T.S x y) rfl (.inr (by simp))]
      refine ⟨_, shut1 _ _ (by simp), by simp; omega, ?_, ?_, ?_⟩
      · rw [List.reverse_append, List.reverse_append]
        refine ⟨.inl ⟨rfl, by simp; omega, by simp; omega, by rw [insC_len, hdl]; simp; omega⟩, ?_⟩
        show RevsOkC (delC (insC (delC T.cs x y) x s) ((x : Int)).toNat ((x + s.length : Nat) : Int).toNat) _
        rw [Int.toNat_natCast, hi, del_ins _ _ h1 (by omega)]
        refine ⟨.inr (.inl ⟨rfl, by simp; omega, by rw [hdl]; simp; omega, hsub.2, by dsimp only; omega, ?_⟩), ?_⟩
        · rw [hdl, hsub.1, hsl]; omega
        · show RevsOkC (insC (delC T.cs x y) ((x : Int)).toNat (chrs (encS (subL T.cs x y)))) _
          rw [Int.toNat_natCast, hsub.1, ins_del _ h1 hxy hy]; exact p1
      · rw [List.reverse_append, List.reverse_append, List.foldl_append]
        show List.foldl revCs (delC (insC (delC T.cs x y) x s) ((x : Int)).toNat ((x + s.length : Nat) : Int).toNat) ([delChg x (encS (subL T.cs x y))].reverse ++ (notePre T.S).reverse) = _
        rw [Int.toNat_natCast, hi, del_ins _ _ h1 (by omega), List.foldl_append]
        show List.foldl revCs (insC (delC T.cs x y) ((x : Int)).toNat (chrs (encS (subL T.cs x y)))) _ = _
        rw [Int.toNat_natCast, hsub.1, ins_del _ h1 hxy hy]; exact p2
      · rw [List.reverse_append, List.reverse_append, show [insChg x s.length].reverse ++ ([delChg x (encS (subL T.cs x y))].reverse ++ (notePre T.S).reverse) = insChg x s.length :: delChg x (encS (subL T.cs x y)) :: (notePre T.S).reverse from rfl, rc, rc]
        have e1 : revC (insChg x s.length) = s.length + 4 := by
          show ((x + s.length : Nat) : Int).toNat - ((x : Nat) : Int).toNat + 4 = _
          rw [hi, Int.toNat_natCast]; omega
        have e2 : revC (delChg x (encS (subL T.cs x y))) = 4 := rfl
        omega
end Go.Proofs.YtcfdalmllegefaaGreatDoor
/- ColumnIndents, in plain Lean: what SetIndent makes of a text. -/
namespace Go.Proofs.YtcfdalmllegefaaGreatDoor
open Go.RowKit Go.Lib
set_option linter.unusedVariables false
set_option linter.unusedSimpArgs false
/-! ### bytes -/
theorem mem_byte (s : ByteArray) (i : Nat) (h : i < s.size) : s[i] ∈ s.data.toList := by
  have e : s[i] = s.data[i]'h := rfl
  rw [e]; exact Array.mem_toList_iff.2 (Array.getElem_mem h)
theorem encL_ascii : ∀ (L : List Nat), (∀ c ∈ L, c < 128) → encL L = L.map UInt8.ofNat
  | [], _ => rfl
  | c :: L, h => by
    have hc : c < 128 := h c List.mem_cons_self
    rw [encL_cons, encL_ascii L (fun x hx => h x (List.mem_cons_of_mem _ hx)), enc1 (by unfold isN; omega) hc]; rfl
theorem blank_byte {L : List Nat} (h : ∀ c ∈ L, c = 32 ∨ c = 9) (i : Nat) (hi : i < (encS L).size) : ((encS L)[i].toNat : Int) = 32 ∨ ((encS L)[i].toNat : Int) = 9 := by
  have hm := mem_byte (encS L) i hi
  rw [encS_list, encL_ascii L (fun c hc => by rcases h c hc with e | e <;> omega), List.mem_map] at hm
  obtain ⟨c, hc, e⟩ := hm
  rw [← e, un8 c (by rcases h c hc with q | q <;> omega)]
  rcases h c hc with q | q <;> omega
theorem head_byte {s : ByteArray} {u : UInt8} {r : List UInt8} (e : s.data.toList = u :: r) (h : 0 < s.size) : s[0] = u := by
  have e1 : s[0] = s.data[0]'h := rfl
  have e2 : s.data[0]'h = s.data.toList[0]'(by rw [e]; simp) := (Array.getElem_toList h).symm
  rw [e1, e2]; simp [e]
theorem enc_head {c : Nat} (h : isN c) : ∃ u r, (Utf8.encode (c : Int)).data.toList = u :: r ∧ (u.toNat = c ∨ 192 ≤ u.toNat) := by
  have hb := h
  unfold isN at hb
  by_cases h1 : c < 128
  · exact ⟨_, _, enc1 h h1, .inl (un8 c (by omega))⟩
  · by_cases h2 : c < 2048
    · exact ⟨_, _, enc2 h h1 h2, .inr (by rw [un8 _ (by omega)]; omega)⟩
    · by_cases h3 : c < 65536
      · exact ⟨_, _, enc3 h h1 h2 h3, .inr (by rw [un8 _ (by omega)]; omega)⟩
      · exact ⟨_, _, enc4 h h1 h2 h3, .inr (by rw [un8 _ (by omega)]; omega)⟩
theorem tail_byte {c : Nat} {L : List Nat} (hc : isN c) (h : ¬ (c = 32 ∨ c = 9)) : ∃ (q : 0 < (encS (c :: L)).size), ¬ ((encS (c :: L))[0].toNat : Int) = 32 ∧ ¬ ((encS (c :: L))[0].toNat : Int) = 9 := by
  obtain ⟨u, r, e, hu⟩ := enc_head hc
  have e2 : (encS (c :: L)).data.toList = u :: (r ++ encL L) := by rw [encS_list, encL_cons, e]; rfl
  have q : 0 < (encS (c :: L)).size := by
    have : (encS (c :: L)).data.toList.length = (encS (c :: L)).size := size_len _
    rw [e2] at this; simp only [List.length_cons] at this; omega
  refine ⟨q, ?_⟩
  rw [head_byte e2 q]
  omega
theorem rep_byte (n i : Nat) (h : i < (repB 32 n).size) : ((repB 32 n)[i].toNat : Int) = 32 := by
  have hm := mem_byte _ i h
  have e : (repB 32 n).data.toList = List.replicate n 32 := by unfold repB; simp
  rw [e] at hm
  rw [(List.mem_replicate.1 hm).2]; rfl
/-! ### a text with a piece turned -/
theorem chr_left {A D : List Nat} {j : Nat} (h1 : 1 ≤ j) (h : j ≤ A.length) : chr (A ++ D) j = chr A j := by
  unfold chr
  rw [List.getD_eq_getElem?_getD, List.getD_eq_getElem?_getD, List.getElem?_append_left (by omega)]
theorem chr_right {A D : List Nat} {j : Nat} (h : A.length + 1 ≤ j) : chr (A ++ D) j = chr D (j - A.length) := by
  unfold chr
  rw [List.getD_eq_getElem?_getD, List.getD_eq_getElem?_getD, List.getElem?_append_right (by omega), show j - 1 - A.length = j - A.length - 1 by omega]
theorem chr_drop {cs : List Nat} {m j : Nat} (h : 1 ≤ j) : chr (cs.drop m) j = chr cs (m + j) := by
  unfold chr
  rw [List.getD_eq_getElem?_getD, List.getD_eq_getElem?_getD, List.getElem?_drop, show m + (j - 1) = m + j - 1 by omega]
theorem chr_take {cs : List Nat} {m j : Nat} (h1 : 1 ≤ j) (h : j ≤ m) : chr (cs.take m) j = chr cs j := by
  unfold chr
  rw [List.getD_eq_getElem?_getD, List.getD_eq_getElem?_getD, List.getElem?_take, if_pos (by omega)]
/-- A text with another piece from x to y. -/
def newC (cs : List Nat) (x y : Nat) (I : List Nat) : List Nat := cs.take (x - 1) ++ (I ++ cs.drop (y - 1))
section
variable {cs I : List Nat} {x y : Nat}
theorem newC_len (h1 : 1 ≤ x) (hxy : x ≤ y) (hy : y ≤ cs.length + 1) : (newC cs x y I).length = cs.length - (y - x) + I.length := by unfold newC; simp; omega
theorem newC_head (h1 : 1 ≤ x) (hx : x ≤ cs.length + 1) {j : Nat} (hj1 : 1 ≤ j) (hj : j < x) : chr (newC cs x y I) j = chr cs j := by
  unfold newC
  rw [chr_left hj1 (by simp; omega), chr_take hj1 (by omega)]
theorem newC_mid (h1 : 1 ≤ x) (hx : x ≤ cs.length + 1) {j : Nat} (hj : j < I.length) : chr (newC cs x y I) (x + j) = chr I (j + 1) := by
  have e : (cs.take (x - 1)).length = x - 1 := by simp; omega
  unfold newC
  rw [chr_right (by omega), e, show x + j - (x - 1) = j + 1 by omega, chr_left (by omega) (by omega)]
theorem newC_tail (h1 : 1 ≤ x) (hx : x ≤ cs.length + 1) (hy : 1 ≤ y) {j : Nat} : chr (newC cs x y I) (x + I.length + j) = chr cs (y + j) := by
  have e : (cs.take (x - 1)).length = x - 1 := by simp; omega
  unfold newC
  rw [chr_right (by omega), e, chr_right (by omega), chr_drop (by omega)]
  congr 1; omega
theorem newC_self (h1 : 1 ≤ x) (hxy : x ≤ y) (hy : y ≤ cs.length + 1) : newC cs x y (subL cs x y) = cs := by
  unfold newC subL
  have e2 : cs.drop (y - 1) = (cs.drop (x - 1)).drop (y - x) := by rw [List.drop_drop]; congr 1; omega
  rw [e2, List.take_append_drop, List.take_append_drop]
theorem newC_sub (h1 : 1 ≤ x) (hx : x ≤ cs.length + 1) : subL (newC cs x y I) x (x + I.length) = I := by
  have e : (cs.take (x - 1)).length = x - 1 := by simp; omega
  unfold newC subL
  rw [List.drop_append_of_le_length (by omega), List.drop_take_self, List.nil_append, show x + I.length - x = I.length by omega, List.take_left]
end
theorem chr_mem {L : List Nat} {j : Nat} (h1 : 1 ≤ j) (h : j ≤ L.length) : chr L j ∈ L := by
  unfold chr
  rw [List.getD_eq_getElem?_getD, List.getElem?_eq_getElem (by omega)]
  exact List.getElem_mem _
/-- Where the indentation of a line lies, behind the change. -/
theorem ind_new {cs I : List Nat} {k x y : Nat} (h1 : 1 ≤ k) (h2 : k ≤ cs.length + 1) (hx : x = lineB cs 1 k) (hy : y = indN cs (lineB cs 1 k) (lineE cs (cs.length + 1) k)) (hI : ∀ c ∈ I, c = 32 ∨ c = 9) :
    lineB (newC cs x y I) 1 x = x ∧ indN (newC cs x y I) x (lineE (newC cs x y I) ((newC cs x y I).length + 1) x) = x + I.length ∧ lineB (newC cs x y I) 1 (x + I.length) = x := by
  have b1 : 1 ≤ lineB cs 1 k := lineB_ge k
  have b2 : lineB cs 1 k ≤ k := lineB_le k h1
  have e1 : k ≤ lineE cs (cs.length + 1) k := lineE_ge k
  have e2 : lineE cs (cs.length + 1) k ≤ cs.length + 1 := lineE_le k h2
  have e3 := lineE_at (cs := cs) (hi := cs.length + 1) k h2
  obtain ⟨q1, q2, q3, q4⟩ := indN_is cs (b := lineB cs 1 k) (e := lineE cs (cs.length + 1) k) (by omega)
  have b3 := lineB_at (cs := cs) (lo := 1) k
  rw [← hy] at q1 q2 q3 q4
  rw [← hx] at b1 b2 b3 q1 q3
  have hmid : ∀ j, x ≤ j → j < x + I.length → chr (newC cs x y I) j = 32 ∨ chr (newC cs x y I) j = 9 := fun j g1 g2 => by
    have := newC_mid (cs := cs) (I := I) (x := x) (y := y) b1 (by omega) (j := j - x) (by omega)
    rw [show x + (j - x) = j by omega] at this
    rw [this]
    exact hI _ (chr_mem (by omega) (by omega))
  have hst : x = 1 ∨ 1 < x ∧ chr (newC cs x y I) (x - 1) = 10 := by
    rcases b3 with b | ⟨b, c⟩
    · exact .inl b
    · refine .inr ⟨b, ?_⟩
      rw [newC_head b1 (by omega) (by omega) (by omega)]; exact c
  have hlen := newC_len (cs := cs) (I := I) (x := x) (y := y) b1 q1 (by omega)
  have L1 : lineB (newC cs x y I) 1 x = x := lineB_eq x x b1 (Nat.le_refl _) (fun j g1 g2 => by omega) hst
  have L3 : lineB (newC cs x y I) 1 (x + I.length) = x := lineB_eq _ x b1 (by omega) (fun j g1 g2 => by rcases hmid j g1 g2 with e | e <;> omega) hst
  refine ⟨L1, ?_, L3⟩
  have f1 : x ≤ lineE (newC cs x y I) ((newC cs x y I).length + 1) x := lineE_ge x
  have f2 : lineE (newC cs x y I) ((newC cs x y I).length + 1) x ≤ (newC cs x y I).length + 1 := lineE_le x (by omega)
  have f3 := lineE_at (cs := newC cs x y I) (hi := (newC cs x y I).length + 1) x (by omega)
  have f4 : x + I.length ≤ lineE (newC cs x y I) ((newC cs x y I).length + 1) x := by
    rcases Nat.lt_or_ge (lineE (newC cs x y I) ((newC cs x y I).length + 1) x) (x + I.length) with g | g
    · rcases f3 with a | ⟨_, a⟩
      · omega
      · rcases hmid _ f1 g with e | e <;> omega
    · exact g
  refine indN_eq _ (by omega) f4 hmid ?_
  have ht := newC_tail (cs := cs) (I := I) (x := x) (y := y) b1 (by omega) (by omega) (j := 0)
  rw [Nat.add_zero, Nat.add_zero] at ht
  rw [ht]
  rcases q4 with a | a
  · rcases e3 with c | ⟨_, c⟩
    · left; omega
    · right; rw [a, c]; omega
  · exact .inr a
/-! ### its column -/
theorem col_tabs {cs : List Nat} {tab b : Nat} (ht : 1 ≤ tab) : ∀ k, (∀ j, j < k → chr cs (b + j) = 9) → colN widN cs tab b (b + k) = k * tab
  | 0, _ => by rw [Nat.add_zero, colN_self]; omega
  | k + 1, h => by
    have ih := col_tabs (cs := cs) (b := b) ht k (fun j hj => h j (by omega))
    rw [show b + (k + 1) = (b + k) + 1 by omega, colN_succ b (b + k) (by omega), ih, h k (by omega)]
    unfold afterN
    rw [if_pos rfl, Nat.mul_mod_left, Nat.succ_mul]; omega
theorem wid_space : widN 32 = 1 := by decide
theorem col_spaces {cs : List Nat} {tab b e : Nat} (hb : b ≤ e) : ∀ k, (∀ j, j < k → chr cs (e + j) = 32) → colN widN cs tab b (e + k) = colN widN cs tab b e + k
  | 0, _ => rfl
  | k + 1, h => by
    have ih := col_spaces (cs := cs) (tab := tab) hb k (fun j hj => h j (by omega))
    rw [show e + (k + 1) = (e + k) + 1 by omega, colN_succ b (e + k) (by omega), ih, h k (by omega)]
    unfold afterN
    rw [if_neg (by omega), wid_space]; omega
theorem indC_blank (col tab : Nat) (tabs : Bool) : ∀ c ∈ indC col tab tabs, c = 32 ∨ c = 9 := fun c hc => by
  unfold indC at hc
  simp only [List.mem_append, List.mem_replicate] at hc
  rcases hc with ⟨_, e⟩ | ⟨_, e⟩ <;> omega
theorem indC_length (col tab : Nat) (tabs : Bool) : (indC col tab tabs).length = tabsN col tab tabs + (col - tabsN col tab tabs * tab) := by unfold indC; simp
theorem indC_chr (col tab : Nat) (tabs : Bool) {j : Nat} (h : j < (indC col tab tabs).length) : chr (indC col tab tabs) (j + 1) = if j < tabsN col tab tabs then 9 else 32 := by
  rw [indC_length] at h
  unfold chr indC
  rw [List.getD_eq_getElem?_getD, Nat.add_sub_cancel, List.getElem?_append, List.length_replicate]
  split
  · rename_i g; simp [List.getElem?_replicate, g]
  · rename_i g; simp [List.getElem?_replicate]; rw [if_pos (by omega)]; rfl
theorem ind_col {cs : List Nat} {x y col tab : Nat} {tabs : Bool} (ht : 1 ≤ tab) (h1 : 1 ≤ x) (hx : x ≤ cs.length + 1) :
    colN widN (newC cs x y (indC col tab tabs)) tab x (x + (indC col tab tabs).length) = col := by
  have hm := tabsN_mul col tab tabs
  have hg : ∀ j, j < (indC col tab tabs).length → chr (newC cs x y (indC col tab tabs)) (x + j) = if j < tabsN col tab tabs then 9 else 32 := fun j hj => by
    rw [newC_mid h1 hx hj, indC_chr col tab tabs hj]
  have hl := indC_length col tab tabs
  have c1 := col_tabs (cs := newC cs x y (indC col tab tabs)) (b := x) ht (tabsN col tab tabs) (fun j hj => by rw [hg j (by omega), if_pos hj])
  have c2 := col_spaces (cs := newC cs x y (indC col tab tabs)) (tab := tab) (b := x) (e := x + tabsN col tab tabs) (by omega) (col - tabsN col tab tabs * tab) (fun j hj => by
    rw [Nat.add_assoc, hg _ (by omega), if_neg (by omega)])
  rw [hl, ← Nat.add_assoc, c2, c1]; omega
end Go.Proofs.YtcfdalmllegefaaGreatDoor
/- package column: what fill reads of its string. -/
namespace Go.Proofs.YtcfdalmllegefaaGreatDoor
open Go.RowKit Go.Lib
set_option linter.unusedVariables false
set_option linter.unusedSimpArgs false
theorem trim_enc : ∀ (cs : List Nat), (∀ c ∈ cs, isN c) → (encL cs).dropWhile (fun b => ([32, 9] : List UInt8).contains b) = encL (cs.dropWhile isT)
  | [], _ => rfl
  | c :: cs, h => by
    have hc := h c List.mem_cons_self
    by_cases ht : isT c = true
    · have hc2 : c = 32 ∨ c = 9 := by unfold isT at ht; simpa using ht
      have ih := trim_enc cs (fun x hx => h x (List.mem_cons_of_mem _ hx))
      rw [encL_cons, List.dropWhile_cons_of_pos ht, ← ih, enc1 hc (by omega)]
      rcases hc2 with rfl | rfl <;> rfl
    · obtain ⟨u, r, e, hu⟩ := enc_head hc
      have hc2 : ¬ (c = 32 ∨ c = 9) := by unfold isT at ht; simpa using ht
      have hn : ([32, 9] : List UInt8).contains u = false := by
        have h1 : u ≠ 32 := fun q => by rw [q] at hu; simp at hu; omega
        have h2 : u ≠ 9 := fun q => by rw [q] at hu; simp at hu; omega
        simp [h1, h2]
      rw [List.dropWhile_cons_of_neg ht, encL_cons, e, List.cons_append, List.dropWhile_cons_of_neg (by rw [hn]; simp)]
theorem lead_enc {cs : List Nat} : encL cs = encL (leadC cs) ++ encL (cs.dropWhile isT) := by
  rw [← encL_append]; unfold leadC; rw [List.takeWhile_append_dropWhile]
theorem lead_extract {s : ByteArray} {cs : List Nat} (h : charsD s.data.toList = some cs) : s.extract 0 (s.size - (encS (cs.dropWhile isT)).size) = encS (leadC cs) := by
  have hs : s.data.toList = encL cs := ((enc_chars _ _ _ (Nat.le_refl _) h).1).symm
  refine bytes_ext ?_
  rw [extract_list, encS_list, List.drop_zero, Nat.sub_zero, hs]
  have h1 : s.size = (encL (leadC cs)).length + (encL (cs.dropWhile isT)).length := by
    rw [← size_len s, hs, ← List.length_append, ← lead_enc]
  have h2 : (encS (cs.dropWhile isT)).size = (encL (cs.dropWhile isT)).length := by rw [← size_len, encS_list]
  rw [h1, h2, Nat.add_sub_cancel]
  conv => lhs; rw [lead_enc (cs := cs)]
  exact List.take_left' rfl
theorem enc_last {c : Nat} (h : isN c) : ∃ r u, (Utf8.encode (c : Int)).data.toList = r ++ [u] ∧ (u = 10 ↔ c = 10) := by
  have hb := h
  unfold isN at hb
  have key : ∀ n : Nat, n < 256 → n ≠ 10 → UInt8.ofNat n ≠ 10 := fun n h1 h2 e => h2 (by have := congrArg UInt8.toNat e; rw [un8 n h1] at this; exact this)
  by_cases h1 : c < 128
  · refine ⟨[], _, enc1 h h1, fun e => ?_, fun e => by rw [e]; rfl⟩
    apply Classical.byContradiction
    intro hn; exact key c (by omega) hn e
  · by_cases h2 : c < 2048
    · exact ⟨[UInt8.ofNat (192 + c / 64)], _, enc2 h h1 h2, fun e => absurd e (key _ (by omega) (by omega)), fun e => by omega⟩
    · by_cases h3 : c < 65536
      · exact ⟨[UInt8.ofNat (224 + c / 4096), UInt8.ofNat (128 + c / 64 % 64)], _, enc3 h h1 h2 h3, fun e => absurd e (key _ (by omega) (by omega)), fun e => by omega⟩
      · exact ⟨[UInt8.ofNat (240 + c / 262144), UInt8.ofNat (128 + c / 4096 % 64), UInt8.ofNat (128 + c / 64 % 64)], _, enc4 h h1 h2 h3, fun e => absurd e (key _ (by omega) (by omega)), fun e => by omega⟩
theorem suffix_enc {cs : List Nat} (h : ∀ c ∈ cs, isN c) : hasSuffix (encL cs) [10] = decide (cs.getLast? = some 10) := by
  unfold hasSuffix
  by_cases hn : cs = []
  · subst hn; rfl
  · obtain ⟨cs0, c, rfl⟩ := snoc_of hn
    obtain ⟨r, u, e, hu⟩ := enc_last (h c (by simp))
    have e2 : encL (cs0 ++ [c]) = (encL cs0 ++ r) ++ [u] := by rw [encL_append, encL_cons, encL_nil, List.append_nil, e, List.append_assoc]
    rw [e2]
    have hl : (cs0 ++ [c]).getLast? = some c := by simp
    rw [hl, Bool.eq_iff_iff, List.isSuffixOf_iff_suffix]
    simp only [decide_eq_true_eq, Option.some.injEq]
    constructor
    · rintro ⟨t, ht⟩
      exact hu.1 ((List.append_inj' ht rfl).2 |> fun q => by simpa using q.symm)
    · intro q
      exact ⟨encL cs0 ++ r, by rw [hu.2 q]⟩
section
variable {s : ByteArray} {cs : List Nat}
theorem trimL_ok (h : charsD s.data.toList = some cs) (w : World) : Calls Tryz.prog 114 #[.string s, .string ⟨#[32, 9]⟩] w fun e w' => e = .returned (.string (encS (cs.dropWhile isT))) ∧ Below w.heap.size w w' := by
  have q := Any.strings_TrimLeft_laid Tryz.laysTrimL (by kernel_rfl) s ⟨#[32, 9]⟩ w (by decide) (by intro j b hj; have := List.mem_of_getElem? hj; simp at this; rcases this with rfl | rfl <;> decide)
  refine q.mono ?_
  rintro e w' ⟨he, hb⟩
  refine ⟨?_, hb⟩
  have ec := enc_chars _ _ _ (Nat.le_refl _) h
  rw [he]
  congr 2
  refine bytes_ext ?_
  rw [encS_list, ← trim_enc cs ec.2, ec.1]
  show (trimLeftS s.data.toList [32, 9]) = _
  rfl
theorem suffix_ok (h : charsD s.data.toList = some cs) (hs : s.size ≤ 1000000000) (w : World) : Calls Tryz.prog 118 #[.string s, .string ⟨#[10]⟩] w fun e w' => e = .returned (.bool (decide (cs.getLast? = some 10))) ∧ w = w' := by
  have q := Any.strings_HasSuffix Tryz.laysSuffix s ⟨#[10]⟩ w (by omega)
  refine q.mono ?_
  rintro e w' ⟨he, hb⟩
  have ec := enc_chars _ _ _ (Nat.le_refl _) h
  refine ⟨?_, hb.symm⟩
  rw [he, ← suffix_enc ec.2, ec.1]
end
end Go.Proofs.YtcfdalmllegefaaGreatDoor
/- package column: fill, in plain Lean, word by word. -/
namespace Go.Proofs.YtcfdalmllegefaaGreatDoor
open Go.RowKit Go.Lib
set_option linter.unusedVariables false
set_option linter.unusedSimpArgs false
theorem wordsA_in : ∀ (cs cur : List Nat), ∀ w ∈ wordsA cur cs, w.length ≤ cur.length + cs.length ∧ ∀ c ∈ w, c ∈ cur ∨ c ∈ cs
  | [], cur, w, hw => by
    unfold wordsA at hw
    split at hw
    · simp at hw
    · simp at hw; subst hw; exact ⟨by simp, fun c hc => .inl hc⟩
  | c :: cs, cur, w, hw => by
    unfold wordsA at hw
    split at hw
    · split at hw
      · obtain ⟨h1, h2⟩ := wordsA_in cs [] w hw
        refine ⟨by simp at h1 ⊢; omega, fun x hx => ?_⟩
        rcases h2 x hx with h | h
        · simp at h
        · exact .inr (List.mem_cons_of_mem _ h)
      · rw [List.mem_cons] at hw
        rcases hw with rfl | hw
        · exact ⟨by omega, fun x hx => .inl hx⟩
        · obtain ⟨h1, h2⟩ := wordsA_in cs [] w hw
          refine ⟨by simp at h1 ⊢; omega, fun x hx => ?_⟩
          rcases h2 x hx with h | h
          · simp at h
          · exact .inr (List.mem_cons_of_mem _ h)
    · obtain ⟨h1, h2⟩ := wordsA_in cs (cur ++ [c]) w hw
      refine ⟨by simp at h1 ⊢; omega, fun x hx => ?_⟩
      rcases h2 x hx with h | h
      · rw [List.mem_append, List.mem_singleton] at h
        rcases h with h | rfl
        · exact .inl h
        · exact .inr List.mem_cons_self
      · exact .inr (List.mem_cons_of_mem _ h)
theorem wordsC_in (cs : List Nat) : ∀ w ∈ wordsC cs, w.length ≤ cs.length ∧ ∀ c ∈ w, c ∈ cs := fun w hw => by
  obtain ⟨h1, h2⟩ := wordsA_in cs [] w hw
  exact ⟨by simpa using h1, fun c hc => (h2 c hc).elim (fun h => by simp at h) id⟩
theorem wordsA_many : ∀ (cs cur : List Nat), (wordsA cur cs).length ≤ cs.length + 1
  | [], cur => by unfold wordsA; split <;> simp
  | c :: cs, cur => by
    have h1 := wordsA_many cs []
    have h2 := wordsA_many cs (cur ++ [c])
    unfold wordsA
    split
    · split
      · simp; omega
      · simp; omega
    · simp; omega
theorem wordsC_many (cs : List Nat) : (wordsC cs).length ≤ cs.length + 1 := wordsA_many cs []
theorem leadC_len (cs : List Nat) : (leadC cs).length ≤ cs.length := by
  have h := congrArg List.length (List.takeWhile_append_dropWhile (p := isT) (l := cs))
  rw [List.length_append] at h
  unfold leadC; omega
theorem leadC_in (cs : List Nat) : ∀ c ∈ leadC cs, c ∈ cs := fun c hc => by
  rw [← List.takeWhile_append_dropWhile (p := isT) (l := cs)]
  exact List.mem_append_left _ hc
/-- Behind i words: what is written, and the column. -/
def FillAt (most tab : Nat) (cs : List Nat) (i : Nat) (out : List Nat) (col : Nat) : Prop :=
  (i = 0 ∧ out = [] ∧ col = 0) ∨ (1 ≤ i ∧ out ++ fillF widN (leadC cs) most tab col ((wordsC cs).drop i) = fillW widN (leadC cs) most tab (wordsC cs))
section
variable {most tab i : Nat} {cs w out : List Nat} {col : Nat}
theorem FillAt.first (h : FillAt most tab cs i out col) (hi : i = 0) (hw : (wordsC cs)[i]? = some w) : FillAt most tab cs (i + 1) (leadC cs ++ w) (widthC tab widN (widthC tab widN 0 (leadC cs)) w) := by
  subst hi
  refine .inr ⟨by omega, ?_⟩
  cases hws : wordsC cs with
  | nil => rw [hws] at hw; simp at hw
  | cons x ws =>
    rw [hws] at hw
    simp at hw
    subst hw
    rfl
theorem drop_at {α : Type} {l : List α} {i : Nat} {x : α} (h : l[i]? = some x) : l.drop i = x :: l.drop (i + 1) := by
  have hi := (List.getElem?_eq_some_iff.1 h).1
  rw [List.drop_eq_getElem_cons hi, (List.getElem?_eq_some_iff.1 h).2]
theorem FillAt.join (h : FillAt most tab cs i out col) (hi : 1 ≤ i) (hw : (wordsC cs)[i]? = some w) (hn : widthC tab widN (col + 1) w ≤ most) : FillAt most tab cs (i + 1) (out ++ 32 :: w) (widthC tab widN (col + 1) w) := by
  rcases h with ⟨h0, _, _⟩ | ⟨_, h⟩
  · omega
  · refine .inr ⟨by omega, ?_⟩
    rw [drop_at hw, fillF, if_pos hn] at h
    rw [← h]; simp
theorem FillAt.break_ (h : FillAt most tab cs i out col) (hi : 1 ≤ i) (hw : (wordsC cs)[i]? = some w) (hn : ¬ widthC tab widN (col + 1) w ≤ most) : FillAt most tab cs (i + 1) (out ++ 10 :: (leadC cs ++ w)) (widthC tab widN (widthC tab widN 0 (leadC cs)) w) := by
  rcases h with ⟨h0, _, _⟩ | ⟨_, h⟩
  · omega
  · refine .inr ⟨by omega, ?_⟩
    rw [drop_at hw, fillF, if_neg hn] at h
    rw [← h]; simp
theorem FillAt.all (h : FillAt most tab cs (wordsC cs).length out col) : out = fillW widN (leadC cs) most tab (wordsC cs) := by
  rcases h with ⟨h0, h1, _⟩ | ⟨_, h⟩
  · rw [h1, List.eq_nil_of_length_eq_zero h0]; rfl
  · rw [List.drop_of_length_le (Nat.le_refl _), fillF, List.append_nil] at h; exact h
end
end Go.Proofs.YtcfdalmllegefaaGreatDoor
/- ColumnFills, in plain Lean: how long a filled text is; what the statement's own functions make of bytes. -/
namespace Go.Proofs.YtcfdalmllegefaaGreatDoor
open Go.RowKit Go.Lib
set_option linter.unusedVariables false
set_option linter.unusedSimpArgs false
/-! ### how many words -/
theorem wordsA_cnt : ∀ (cs cur : List Nat), (wordsA cur cs).length ≤ cs.length + (if cur = [] then 0 else 1)
  | [], cur => by unfold wordsA; split <;> simp
  | c :: cs, cur => by
    have h1 := wordsA_cnt cs []
    have h2 := wordsA_cnt cs (cur ++ [c])
    rw [if_pos rfl] at h1
    rw [if_neg (by simp)] at h2
    unfold wordsA
    split
    · split
      · simp only [List.length_cons]; omega
      · rename_i hne; simp only [List.length_cons]; omega
    · simp only [List.length_cons]; split <;> omega
theorem words_lead (cs : List Nat) : (wordsC cs).length + (leadC cs).length ≤ cs.length := by
  have e : cs = leadC cs ++ cs.dropWhile isT := by unfold leadC; rw [List.takeWhile_append_dropWhile]
  have h1 : wordsC cs = wordsC (cs.dropWhile isT) := by
    conv => lhs; rw [e]
    exact wordsC_blanks _ (fun c hc => isT_B (leadC_T cs c hc)) _
  have h2 := wordsA_cnt (cs.dropWhile isT) []
  rw [if_pos rfl] at h2
  have h3 := congrArg List.length e
  rw [List.length_append] at h3
  rw [h1]
  have : (wordsC (cs.dropWhile isT)).length ≤ (cs.dropWhile isT).length := h2
  omega
theorem encL_ge : ∀ (cs : List Nat), (∀ c ∈ cs, isN c) → cs.length ≤ (encL cs).length
  | [], _ => by simp
  | c :: cs, h => by
    obtain ⟨u, r, e, _⟩ := enc_head (h c List.mem_cons_self)
    have := encL_ge cs (fun x hx => h x (List.mem_cons_of_mem _ hx))
    rw [encL_cons, List.length_append, e]; simp; omega
theorem encL_T : ∀ (cs : List Nat), (∀ c ∈ cs, isT c = true) → (encL cs).length = cs.length
  | [], _ => rfl
  | c :: cs, h => by
    have hc : c = 32 ∨ c = 9 := by have := h c List.mem_cons_self; unfold isT at this; simpa using this
    have e : (Utf8.encode (c : Int)).data.toList.length = 1 := by rcases hc with rfl | rfl <;> rfl
    rw [encL_cons, List.length_append, e, encL_T cs (fun x hx => h x (List.mem_cons_of_mem _ hx)), List.length_cons]; omega
/-- The bytes of the words together. -/
def sumB : List (List Nat) → Nat
  | [] => 0
  | w :: ws => (encL w).length + sumB ws
theorem wordsA_sumB : ∀ (cs cur : List Nat), sumB (wordsA cur cs) ≤ (encL cur).length + (encL cs).length
  | [], cur => by unfold wordsA; split <;> simp [sumB]
  | c :: cs, cur => by
    have e : (encL (c :: cs)).length = (encL [c]).length + (encL cs).length := by rw [show c :: cs = [c] ++ cs from rfl, encL_append, List.length_append]
    have h1 := wordsA_sumB cs []
    have h2 := wordsA_sumB cs (cur ++ [c])
    rw [encL_nil, List.length_nil] at h1
    rw [encL_append, List.length_append] at h2
    unfold wordsA
    split
    · split
      · omega
      · simp only [sumB]; omega
    · omega
theorem enc32 : (Utf8.encode ((32 : Nat) : Int)).data.toList.length = 1 := rfl
theorem enc10 : (Utf8.encode ((10 : Nat) : Int)).data.toList.length = 1 := rfl
theorem fillF_size (wid : Nat → Nat) (most tab : Nat) {lead : List Nat} (hl : ∀ c ∈ lead, isT c = true) : ∀ (ws : List (List Nat)) (col : Nat), (encL (fillF wid lead most tab col ws)).length ≤ sumB ws + ws.length * (lead.length + 1)
  | [], col => by simp [fillF, encL_nil]
  | w :: ws, col => by
    have el := encL_T lead hl
    unfold fillF
    have hm : (w :: ws).length * (lead.length + 1) = ws.length * (lead.length + 1) + (lead.length + 1) := by rw [List.length_cons, Nat.add_mul, Nat.one_mul]
    rw [hm]
    split
    · have ih := fillF_size wid most tab hl ws (widthC tab wid (col + 1) w)
      rw [show (32 :: w ++ fillF wid lead most tab (widthC tab wid (col + 1) w) ws) = 32 :: (w ++ fillF wid lead most tab (widthC tab wid (col + 1) w) ws) from rfl, encL_cons, encL_append, List.length_append, List.length_append, enc32]
      simp only [sumB]; omega
    · have ih := fillF_size wid most tab hl ws (widthC tab wid (widthC tab wid 0 lead) w)
      rw [show (10 :: lead ++ w ++ fillF wid lead most tab (widthC tab wid (widthC tab wid 0 lead) w) ws) = 10 :: (lead ++ (w ++ fillF wid lead most tab (widthC tab wid (widthC tab wid 0 lead) w) ws)) by simp, encL_cons, encL_append, encL_append, List.length_append, List.length_append, List.length_append, enc10]
      simp only [sumB]; omega
theorem fillC_size (wid : Nat → Nat) (most tab : Nat) (cs : List Nat) : (encL (fillC wid most tab cs)).length ≤ (encL cs).length + (wordsC cs).length * ((leadC cs).length + 1) + (if wordsC cs = [] then 1 else 0) := by
  have hs : sumB (wordsC cs) ≤ (encL cs).length := by have := wordsA_sumB cs []; rw [encL_nil, List.length_nil] at this; unfold wordsC; omega
  have hl := leadC_T cs
  have el := encL_T (leadC cs) hl
  have he : (encL (endNL cs)).length ≤ 1 := by unfold endNL; split <;> first | exact Nat.le_of_eq (by rw [encL_cons, encL_nil]; rfl) | simp [encL_nil]
  unfold fillC
  rw [encL_append, List.length_append]
  cases hw : wordsC cs with
  | nil => rw [if_pos rfl]; simp only [fillW, encL_nil, List.length_nil]; omega
  | cons w ws =>
    rw [if_neg (by simp)]
    rw [hw] at hs
    have h1 := fillF_size wid most tab hl ws (widthC tab wid (widthC tab wid 0 (leadC cs)) w)
    have hm : (w :: ws).length * ((leadC cs).length + 1) = ws.length * ((leadC cs).length + 1) + ((leadC cs).length + 1) := by rw [List.length_cons, Nat.add_mul, Nat.one_mul]
    rw [hm]
    show (encL (leadC cs ++ w ++ fillF wid (leadC cs) most tab (widthC tab wid (widthC tab wid 0 (leadC cs)) w) ws)).length + _ ≤ _
    rw [List.append_assoc, encL_append, encL_append, List.length_append, List.length_append]
    simp only [sumB] at hs
    omega
theorem sq4 (a b : Nat) : 4 * (a * b) ≤ (a + b) * (a + b) := by
  rcases Nat.le_total a b with h | h
  · obtain ⟨d, rfl⟩ := Nat.le.dest h
    have e1 : (a + (a + d)) * (a + (a + d)) = 4 * (a * (a + d)) + d * d := by
      simp only [Nat.mul_add, Nat.add_mul]; rw [Nat.mul_comm d a]; omega
    omega
  · obtain ⟨d, rfl⟩ := Nat.le.dest h
    have e1 : (b + d + b) * (b + d + b) = 4 * ((b + d) * b) + d * d := by
      simp only [Nat.mul_add, Nat.add_mul]; rw [Nat.mul_comm d b]; omega
    omega
def capN (n : Nat) : Nat := n * n + 7 * n
theorem capN_add (a b : Nat) : capN a + capN b ≤ capN (a + b) := by
  unfold capN
  have : (a + b) * (a + b) = a * a + b * b + 2 * (a * b) := by simp only [Nat.mul_add, Nat.add_mul]; rw [Nat.mul_comm b a]; omega
  omega
theorem capN_mono {a b : Nat} (h : a ≤ b) : capN a ≤ capN b := by
  obtain ⟨d, rfl⟩ := Nat.le.dest h
  have := capN_add a d; omega
theorem capN_ge (n : Nat) : 4 * n ≤ capN n := by unfold capN; have := Nat.zero_le (n * n); omega
theorem fl_size (wid : Nat → Nat) (most tab : Nat) (par : List Nat) (hp : ∀ c ∈ par, isN c) : 4 * (encL (flC wid most tab par)).length ≤ capN (encL par).length := by
  unfold flC
  split
  · rw [encL_nil]; simp
  · rename_i hne
    have h1 := fillC_size wid most tab par
    have h2 := words_lead par
    have h3 := encL_ge par hp
    have h0 : 1 ≤ par.length := by cases par with | nil => exact absurd rfl hne | cons => simp
    obtain ⟨N, hN⟩ : ∃ N, N = (encL par).length := ⟨_, rfl⟩
    obtain ⟨k, hk⟩ : ∃ k, k = (wordsC par).length := ⟨_, rfl⟩
    obtain ⟨L, hL⟩ : ∃ L, L = (leadC par).length := ⟨_, rfl⟩
    rw [← hN, ← hk, ← hL] at h1
    rw [← hk, ← hL] at h2
    rw [← hN] at h3 ⊢
    have h4 := sq4 k (L + 1)
    have h5 : (k + (L + 1)) * (k + (L + 1)) ≤ (N + 1) * (N + 1) := Nat.mul_le_mul (by omega) (by omega)
    have h6 : (N + 1) * (N + 1) = N * N + 2 * N + 1 := by simp only [Nat.mul_add, Nat.add_mul]; omega
    unfold capN
    by_cases hw : wordsC par = []
    · rw [if_pos hw] at h1
      have : k = 0 := by rw [hk, hw]; rfl
      subst this
      rw [Nat.zero_mul] at h1
      have := Nat.le_mul_self N
      omega
    · rw [if_neg hw] at h1
      omega
theorem proc_size (wid : Nat → Nat) (most tab : Nat) : ∀ (R : List (List Nat)) (par : List Nat), (∀ c ∈ par, isN c) → (∀ r ∈ R, ∀ c ∈ r, isN c) → 4 * (encL (procC wid most tab R par)).length ≤ capN (encL (par ++ R.flatten)).length
  | [], par, hp, _ => by
    rw [procC, List.flatten_nil, List.append_nil]
    exact fl_size wid most tab par hp
  | r :: R, par, hp, hR => by
    have hr := hR r List.mem_cons_self
    have ht : ∀ x ∈ R, ∀ c ∈ x, isN c := fun x hx => hR x (List.mem_cons_of_mem _ hx)
    unfold procC
    split
    · have h1 := fl_size wid most tab par hp
      have h2 := proc_size wid most tab R [] (by simp) ht
      rw [List.nil_append] at h2
      have h3 := capN_ge (encL r).length
      have h4 := capN_add (encL par).length (encL r).length
      have h5 := capN_add ((encL par).length + (encL r).length) (encL R.flatten).length
      rw [List.flatten_cons]
      simp only [encL_append, List.length_append]
      rw [← Nat.add_assoc]
      omega
    · have h := proc_size wid most tab R (par ++ r) (fun c hc => (List.mem_append.1 hc).elim (hp c) (hr c)) ht
      rw [List.append_assoc] at h
      rw [List.flatten_cons]; exact h
theorem rows_in {cs r : List Nat} (h : r ∈ rowsC cs) : ∀ c ∈ r, c ∈ cs := fun c hc => by
  rw [← rowsC_flat cs]; exact List.mem_flatten.2 ⟨r, h, hc⟩
/-- How long a filled text is, in bytes. -/
theorem fillT_size (wid : Nat → Nat) (most tab : Nat) (cs : List Nat) (hcs : ∀ c ∈ cs, isN c) : 4 * (encL (fillT wid most tab cs)).length ≤ capN (encL cs).length := by
  have := proc_size wid most tab (rowsC cs) [] (by simp) (fun r hr c hc => hcs c (rows_in hr c hc))
  rw [List.nil_append, rowsC_flat] at this
  exact this
/-! ### the characters of a filled text -/
theorem fillF_in (wid : Nat → Nat) (most tab : Nat) {lead : List Nat} : ∀ (ws : List (List Nat)) (col : Nat), ∀ c ∈ fillF wid lead most tab col ws, c = 32 ∨ c = 10 ∨ c ∈ lead ∨ ∃ w ∈ ws, c ∈ w
  | [], col, c, h => by simp [fillF] at h
  | w :: ws, col, c, h => by
    unfold fillF at h
    split at h
    · rw [List.cons_append, List.mem_cons, List.mem_append] at h
      rcases h with h | h | h
      · exact .inl h
      · exact .inr (.inr (.inr ⟨w, List.mem_cons_self, h⟩))
      · rcases fillF_in wid most tab ws _ c h with h | h | h | ⟨x, hx, h⟩
        · exact .inl h
        · exact .inr (.inl h)
        · exact .inr (.inr (.inl h))
        · exact .inr (.inr (.inr ⟨x, List.mem_cons_of_mem _ hx, h⟩))
    · rw [List.cons_append, List.cons_append, List.mem_cons, List.mem_append, List.mem_append] at h
      rcases h with h | (h | h) | h
      · exact .inr (.inl h)
      · exact .inr (.inr (.inl h))
      · exact .inr (.inr (.inr ⟨w, List.mem_cons_self, h⟩))
      · rcases fillF_in wid most tab ws _ c h with h | h | h | ⟨x, hx, h⟩
        · exact .inl h
        · exact .inr (.inl h)
        · exact .inr (.inr (.inl h))
        · exact .inr (.inr (.inr ⟨x, List.mem_cons_of_mem _ hx, h⟩))
theorem fillC_in (wid : Nat → Nat) (most tab : Nat) (cs : List Nat) : ∀ c ∈ fillC wid most tab cs, c = 32 ∨ c = 10 ∨ c ∈ cs := by
  intro c h
  unfold fillC at h
  rw [List.mem_append] at h
  rcases h with h | h
  · cases hw : wordsC cs with
    | nil => rw [hw] at h; simp [fillW] at h
    | cons w ws =>
      have hin : ∀ x ∈ w :: ws, ∀ c ∈ x, c ∈ cs := fun x hx => (wordsC_in cs x (by rw [hw]; exact hx)).2
      rw [hw] at h
      unfold fillW at h
      rw [List.mem_append, List.mem_append] at h
      rcases h with (h | h) | h
      · exact .inr (.inr (leadC_in cs c h))
      · exact .inr (.inr (hin w List.mem_cons_self c h))
      · rcases fillF_in wid most tab ws _ c h with h | h | h | ⟨x, hx, h⟩
        · exact .inl h
        · exact .inr (.inl h)
        · exact .inr (.inr (leadC_in cs c h))
        · exact .inr (.inr (hin x (List.mem_cons_of_mem _ hx) c h))
  · unfold endNL at h
    split at h
    · simp at h; exact .inr (.inl h)
    · simp at h
theorem proc_in (wid : Nat → Nat) (most tab : Nat) : ∀ (R : List (List Nat)) (par : List Nat), ∀ c ∈ procC wid most tab R par, c = 32 ∨ c = 10 ∨ c ∈ par ∨ ∃ r ∈ R, c ∈ r
  | [], par, c, h => by
    unfold procC flC at h
    split at h
    · simp at h
    · rcases fillC_in wid most tab par c h with h | h | h
      · exact .inl h
      · exact .inr (.inl h)
      · exact .inr (.inr (.inl h))
  | r :: R, par, c, h => by
    unfold procC at h
    split at h
    · rw [List.mem_append, List.mem_append] at h
      rcases h with (h | h) | h
      · unfold flC at h
        split at h
        · simp at h
        · rcases fillC_in wid most tab par c h with h | h | h
          · exact .inl h
          · exact .inr (.inl h)
          · exact .inr (.inr (.inl h))
      · exact .inr (.inr (.inr ⟨r, List.mem_cons_self, h⟩))
      · rcases proc_in wid most tab R [] c h with h | h | h | ⟨x, hx, h⟩
        · exact .inl h
        · exact .inr (.inl h)
        · simp at h
        · exact .inr (.inr (.inr ⟨x, List.mem_cons_of_mem _ hx, h⟩))
    · rcases proc_in wid most tab R (par ++ r) c h with h | h | h | ⟨x, hx, h⟩
      · exact .inl h
      · exact .inr (.inl h)
      · rw [List.mem_append] at h
        rcases h with h | h
        · exact .inr (.inr (.inl h))
        · exact .inr (.inr (.inr ⟨r, List.mem_cons_self, h⟩))
      · exact .inr (.inr (.inr ⟨x, List.mem_cons_of_mem _ hx, h⟩))
theorem fillT_isN (wid : Nat → Nat) (most tab : Nat) {cs : List Nat} (hcs : ∀ c ∈ cs, isN c) : ∀ c ∈ fillT wid most tab cs, isN c := by
  intro c h
  rcases proc_in wid most tab (rowsC cs) [] c h with h | h | h | ⟨r, hr, h⟩
  · subst h; unfold isN; omega
  · subst h; unfold isN; omega
  · simp at h
  · exact hcs c (rows_in hr c h)
end Go.Proofs.YtcfdalmllegefaaGreatDoor
