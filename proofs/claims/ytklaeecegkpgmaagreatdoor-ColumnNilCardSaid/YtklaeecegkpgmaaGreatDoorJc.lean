import Derived.Test.YtklaeecegkpgmaaGreatDoorJa
import Derived.Test.YtklaeecegkpgmaaGreatDoorJb
import Derived.IntWalk
import Derived.Lib.SliceRun
import Derived.BigRegion
import Derived.RegionTactic
import Derived.ChangeAlike
/- A text with a gap, in memory; none, Size, rune, Char, span, Find, FindBack. -/
namespace Go.Proofs.YtklaeecegkpgmaaGreatDoor
open Go.RowKit
set_option linter.unusedVariables false
set_option linter.unusedSimpArgs false

/-- The text object at block t, with its characters in block g: cs. -/
structure GapI (w : World) (t g : Nat) (B : List Int) (cap st en : Nat) (cs : List Nat) : Prop where
  c0 : w.cell? ⟨t, 0, none⟩ = some (.slice (some ⟨g, 0, none⟩) B.length cap)
  c1 : w.cell? ⟨t, 1, none⟩ = some (.int .i64 st)
  c2 : w.cell? ⟨t, 2, none⟩ = some (.int .i64 en)
  hc : B.length ≤ cap
  hm : cap ≤ 1000000
  hg : g < w.heap.size
  hb : ∀ (i : Nat) (z : Int), B[i]? = some z → w.cell? ⟨g, i, none⟩ = some (.int .i32 z)
  h1 : st ≤ en
  h2 : en ≤ B.length
  hB : B.take st ++ B.drop en = cs.map Int.ofNat
  hn : ∀ c ∈ cs, isN c
def GapR (w : World) (t g : Nat) (cs : List Nat) : Prop := ∃ B cap st en, GapI w t g B cap st en cs
section
variable {w w' : World} {t g cap st en : Nat} {B : List Int} {cs : List Nat}
theorem GapI.lt (h : GapI w t g B cap st en cs) : t < w.heap.size := lt_of_cell h.c0
theorem GapI.kept (h : GapI w t g B cap st en cs) (ht : w'.heap[t]? = w.heap[t]?) (hg : w'.heap[g]? = w.heap[g]?) (hs : w.heap.size ≤ w'.heap.size) : GapI w' t g B cap st en cs :=
  ⟨(World.cell?_of_block (w := w) (a := ⟨t, 0, none⟩) ht).trans h.c0, (World.cell?_of_block (w := w) (a := ⟨t, 1, none⟩) ht).trans h.c1, (World.cell?_of_block (w := w) (a := ⟨t, 2, none⟩) ht).trans h.c2, h.hc, h.hm, Nat.lt_of_lt_of_le h.hg hs,
    fun i z hz => (World.cell?_of_block (w := w) (a := ⟨g, i, none⟩) hg).trans (h.hb i z hz), h.h1, h.h2, h.hB, h.hn⟩
theorem GapI.up (h : GapI w t g B cap st en cs) (hb : Below w.heap.size w w') : GapI w' t g B cap st en cs := h.kept (hb.block t h.lt) (hb.block g h.hg) hb.size
theorem GapR.up (h : GapR w t g cs) (hb : Below w.heap.size w w') : GapR w' t g cs := by obtain ⟨B, cap, st, en, h⟩ := h; exact ⟨B, cap, st, en, h.up hb⟩
theorem GapR.kept (h : GapR w t g cs) (ht : w'.heap[t]? = w.heap[t]?) (hg : w'.heap[g]? = w.heap[g]?) (hs : w.heap.size ≤ w'.heap.size) : GapR w' t g cs := by obtain ⟨B, cap, st, en, h⟩ := h; exact ⟨B, cap, st, en, h.kept ht hg hs⟩
theorem GapI.len (h : GapI w t g B cap st en cs) : cs.length + (en - st) = B.length := by
  have e := congrArg List.length h.hB
  rw [List.length_append, List.length_take, List.length_drop, List.length_map] at e
  have := h.h1; have := h.h2; omega
theorem GapR.len (h : GapR w t g cs) : cs.length ≤ 1000000 := by
  obtain ⟨B, cap, st, en, h⟩ := h
  have := h.len; have := h.hc; have := h.hm; omega
theorem GapI.at_ (h : GapI w t g B cap st en cs) {i : Nat} (hi : i < cs.length) : w.cell? ⟨g, (if i < st then i else i + (en - st)), none⟩ = some (.int .i32 (cs.getD i 0 : Nat)) := by
  have hl := h.len
  have h1 := h.h1; have h2 := h.h2
  have e : (B.take st ++ B.drop en)[i]? = some ((cs.getD i 0 : Nat) : Int) := by
    rw [h.hB, List.getElem?_map, List.getD_eq_getElem?_getD, List.getElem?_eq_getElem hi]; rfl
  by_cases hs : i < st
  · rw [if_pos hs]
    rw [List.getElem?_append_left (by rw [List.length_take]; omega), List.getElem?_take_of_lt hs] at e
    exact h.hb i _ e
  · rw [if_neg hs]
    rw [List.getElem?_append_right (by rw [List.length_take]; omega), List.length_take, List.getElem?_drop, show en + (i - min st B.length) = i + (en - st) by omega] at e
    exact h.hb _ _ e
theorem GapI.chr_bound (h : GapI w t g B cap st en cs) (i : Nat) : cs.getD i 0 ≤ 1114111 := by
  rw [List.getD_eq_getElem?_getD]
  cases e : cs[i]? with
  | none => simp
  | some c => exact (h.hn c (List.mem_of_getElem? e)).1

set_option maxRecDepth 100000 in
set_option maxHeartbeats 1000000 in
theorem gnone (h : GapI w t g B cap st en cs) : Calls Tryz.prog 93 #[.pointer (some ⟨t, 0, none⟩)] w fun e w' => e = .returned (.bool false) ∧ w = w' := by
  have c0 := h.c0
  have hn := Lib.run_eql_slice_nil (P := Tryz.prog) w 120 21 (some ⟨g, 0, none⟩) B.length cap 0 0 Tryz.underlying120
  clear h
  go_enter Tryz.func93, Tryz.ntmps93
  go_wp2_with fail
  go_ret
  exact ⟨rfl, rfl⟩
set_option maxHeartbeats 1000000 in
theorem gsize (h : GapR w t g cs) : Calls Tryz.prog 97 #[.pointer (some ⟨t, 0, none⟩)] w fun e w' => e = .returned (.int .i64 cs.length) ∧ Below w.heap.size w w' := by
  obtain ⟨B, cap, st, en, h⟩ := h
  have c0 := h.c0
  have c1 := h.c1
  have c2 := h.c2
  have hl := h.len
  have h1 := h.h1
  have h2 := h.h2
  have h3 := h.hc
  have h4 := h.hm
  have s1 : IntKind.i64.wrap ((en : Int) - (st : Int)) = (en : Int) - (st : Int) := IntWalk.i64_in _ (by omega)
  have s2 : IntKind.i64.wrap ((B.length : Int) - ((en : Int) - (st : Int))) = (cs.length : Int) := by rw [IntWalk.i64_in _ (by omega)]; omega
  have HN := Lib.hid (gnone h)
  clear h hl h1 h2 h3 h4
  go_enter Tryz.func97, Tryz.ntmps97
  go_wp2_with fail
  refine HN.out.mono ?_
  rintro e w' ⟨rfl, rfl⟩
  go_wp2_with fail
  go_region
  go_wp2_with fail
  go_ret
  exact ⟨rfl, (Below.refl _ w).drew⟩
set_option maxHeartbeats 1000000 in
theorem grune (h : GapR w t g cs) (i : Nat) (hi : i < cs.length) : Calls Tryz.prog 98 #[.pointer (some ⟨t, 0, none⟩), .int .i64 i] w fun e w' => e = .returned (.int .i32 (cs.getD i 0 : Nat)) ∧ Below w.heap.size w w' := by
  obtain ⟨B, cap, st, en, h⟩ := h
  have c0 := h.c0
  have c1 := h.c1
  have c2 := h.c2
  have hl := h.len
  have h1 := h.h1
  have h2 := h.h2
  have h3 := h.hc
  have h4 := h.hm
  have ha := h.at_ hi
  have hcb := h.chr_bound i
  by_cases hs : i < st
  · rw [if_pos hs] at ha
    have d1 : decide ((st : Int) ≤ i) = false := decide_eq_false (by omega)
    have hi' : (i : Int) < B.length := by omega
    clear h hl hi
    go_enter Tryz.func98, Tryz.ntmps98
    go_wp2_with fail
    go_ret
    exact ⟨rfl, Below.refl _ w⟩
  · rw [if_neg hs] at ha
    have d1 : decide ((st : Int) ≤ i) = true := decide_eq_true (by omega)
    have s1 : IntKind.i64.wrap ((en : Int) - (st : Int)) = ((en - st : Nat) : Int) := by rw [IntWalk.i64_in _ (by omega)]; omega
    have s2 : IntKind.i64.wrap ((i : Int) + ((en - st : Nat) : Int)) = ((i + (en - st) : Nat) : Int) := by rw [IntWalk.i64_in _ (by omega)]; omega
    have hi' : ((i + (en - st) : Nat) : Int) < B.length := by omega
    have hi'' : i + (en - st) < B.length := by omega
    generalize i + (en - st) = k at *
    generalize en - st = gp at *
    clear h hl hi
    go_enter Tryz.func98, Tryz.ntmps98
    go_wp2_with fail
    go_region
    go_wp2_with fail
    go_ret
    exact ⟨rfl, (Below.refl _ w).drew⟩
theorem chr_get (cs : List Nat) (k : Nat) : cs.getD k 0 = chr cs (k + 1) := by unfold chr; rw [Nat.add_sub_cancel]
/-- Handed back by Char. -/
def charV (cs : List Nat) (at_ : Nat) : Value := if 1 ≤ at_ ∧ at_ ≤ cs.length then .tuple #[.int .i64 (chr cs at_ : Nat), .bool true] else .tuple #[.int .i64 0, .bool false]
theorem chr_cap (h : GapR w t g cs) (i : Nat) : chr cs i ≤ 1114111 := by obtain ⟨B, cap, st, en, h⟩ := h; exact h.chr_bound _
set_option maxHeartbeats 1000000 in
theorem gchar (h : GapR w t g cs) (k : Nat) (hk : k < cs.length) : Calls Tryz.prog 65 #[.pointer (some ⟨t, 0, none⟩), .int .i64 (k + 1 : Nat)] w fun e w' => e = .returned (.tuple #[.int .i64 (chr cs (k + 1) : Nat), .bool true]) ∧ Below w.heap.size w w' := by
  have hl := h.len
  have hcb := chr_cap h (k + 1)
  have HS := Lib.hid (gsize h)
  have HR : Hid (∀ w1, Below w.heap.size w w1 → _) := Lib.hid (fun w1 (hb : Below w.heap.size w w1) => grune (h.up hb) k hk)
  rw [chr_get] at HR
  have d1 : decide (((k + 1 : Nat) : Int) < 1) = false := decide_eq_false (by omega)
  have d2 : decide ((cs.length : Int) < ((k + 1 : Nat) : Int)) = false := decide_eq_false (by omega)
  have s1 : IntKind.i64.wrap (((k + 1 : Nat) : Int) - 1) = (k : Int) := by rw [IntWalk.i64_in _ (by omega)]; omega
  generalize chr cs (k + 1) = c at *
  generalize ((k + 1 : Nat) : Int) = q at *
  clear h hk
  go_enter Tryz.func65, Tryz.ntmps65
  go_wp2_with fail
  refine HS.out.mono ?_
  rintro e w1 ⟨rfl, hb1⟩
  go_wp2_with fail
  refine (HR.out w1 hb1).mono ?_
  rintro e w2 ⟨rfl, hb2⟩
  go_wp2_with fail
  go_ret2
  exact ⟨rfl, up2 hb1 hb2⟩
theorem gchar_no (h : GapR w t g cs) (q : Int) (hk : q < 1 ∨ (cs.length : Int) < q) : Calls Tryz.prog 65 #[.pointer (some ⟨t, 0, none⟩), .int .i64 q] w fun e w' => e = .returned (.tuple #[.int .i64 0, .bool false]) ∧ Below w.heap.size w w' := by
  have hl := h.len
  have HS := Lib.hid (gsize h)
  clear h
  by_cases h1 : q < 1
  · have d1 : decide (q < 1) = true := decide_eq_true h1
    clear hk
    go_enter Tryz.func65, Tryz.ntmps65
    go_wp2_with fail
    go_ret2
    exact ⟨rfl, Below.refl _ w⟩
  · have d1 : decide (q < 1) = false := decide_eq_false h1
    have d2 : decide ((cs.length : Int) < q) = true := decide_eq_true (by omega)
    clear hk
    go_enter Tryz.func65, Tryz.ntmps65
    go_wp2_with fail
    refine HS.out.mono ?_
    rintro e w1 ⟨rfl, hb1⟩
    go_wp2_with fail
    go_ret2
    exact ⟨rfl, hb1⟩
/-- The first line feed (or whatever character) from a position on. -/
def FindP (w : World) (cs : List Nat) (c lo hi : Nat) (e : Ending) (w' : World) : Prop := Below w.heap.size w w' ∧
  ((∃ i, lo ≤ i ∧ i < hi ∧ chr cs i = c ∧ (∀ j, lo ≤ j → j < i → chr cs j ≠ c) ∧ e = .returned (.tuple #[.int .i64 i, .bool true])) ∨ ((∀ j, lo ≤ j → j < hi → chr cs j ≠ c) ∧ e = .returned (.tuple #[.int .i64 0, .bool false])))
def FindBackP (w : World) (cs : List Nat) (c lo hi : Nat) (e : Ending) (w' : World) : Prop := Below w.heap.size w w' ∧
  ((∃ i, lo ≤ i ∧ i < hi ∧ chr cs i = c ∧ (∀ j, i < j → j < hi → chr cs j ≠ c) ∧ e = .returned (.tuple #[.int .i64 i, .bool true])) ∨ ((∀ j, lo ≤ j → j < hi → chr cs j ≠ c) ∧ e = .returned (.tuple #[.int .i64 0, .bool false])))
def intOf : Value → Int
  | .int _ n => n
  | _ => 0
set_option maxRecDepth 100000 in
set_option maxHeartbeats 2000000 in
theorem gfind (h : GapR w t g cs) (c lo hi : Nat) (h1 : 1 ≤ lo) (h2 : hi ≤ cs.length + 1) (h3 : lo ≤ cs.length + 1) : Calls Tryz.prog 88 #[.pointer (some ⟨t, 0, none⟩), .int .i64 c, .int .i64 lo, .int .i64 hi] w (FindP w cs c lo hi) := by
  have hl := h.len
  have HG := Lib.hid h
  have m1 : max (lo : Int) 1 = lo := by omega
  have m2 : min (hi : Int) ((cs.length : Int) + 1) = hi := by omega
  have s1 : IntKind.i64.wrap ((cs.length : Int) + 1) = (cs.length : Int) + 1 := IntWalk.i64_in _ (by omega)
  clear h
  go_enter Tryz.func88, Tryz.ntmps88
  go_wp2_with fail
  go_loopw [10] (fun va wr => ∃ k : Nat, lo ≤ k ∧ k ≤ cs.length + 1 ∧ va = .int .i64 k ∧ (∀ j, lo ≤ j → j < k → chr cs j ≠ c) ∧ Below w.heap.size w wr) (fun va _ => cs.length + 2 - (intOf va).toNat)
  case atStart => exact ⟨lo, Nat.le_refl _, h3, rfl, fun j h h2 => by omega, Below.refl _ w⟩
  case round =>
    obtain ⟨k, hk1, hk2, rfl, hno, hbel⟩ := hrel
    have HNO := Lib.hid hno
    have HB := Lib.hid hbel
    have HS := Lib.hid (gsize (HG.out.up hbel))
    clear hno hbel
    by_cases hlt : k < hi
    · have d1 : decide ((k : Int) < hi) = true := decide_eq_true (by omega)
      obtain ⟨q, rfl⟩ : ∃ q, k = q + 1 := ⟨k - 1, by omega⟩
      have s2 : IntKind.i64.wrap (((q + 1 : Nat) : Int) - 1) = (q : Int) := by rw [IntWalk.i64_in _ (by omega)]; omega
      have HR : Hid (∀ w1, Below wr.heap.size wr w1 → _) := Lib.hid (fun w1 (hb : Below wr.heap.size wr w1) => grune ((HG.out.up HB.out).up hb) q (by omega))
      rw [chr_get] at HR
      have hcb := chr_cap HG.out (q + 1)
      have HQ : Hid (chr cs (q + 1) = chr cs (q + 1)) := Lib.hid rfl
      generalize hc : chr cs (q + 1) = x at HR hcb HQ
      have HC := Lib.hid hc
      have s3 : IntKind.i64.wrap (((q + 1 : Nat) : Int) + 1) = ((q + 1 + 1 : Nat) : Int) := by rw [IntWalk.i64_in _ (by omega)]; omega
      have hk3 : q + 1 + 1 ≤ cs.length + 1 := by omega
      clear hc HQ h2 h3 hk2
      by_cases hxc : x = c
      · have d2 : ((x : Int) == (c : Int)) = true := by simp [hxc]
        go_wp2_with fail
        refine HS.out.mono ?_
        rintro e w1 ⟨rfl, hb1⟩
        go_wp2_with fail
        refine (HR.out w1 hb1).mono ?_
        rintro e w2 ⟨rfl, hb2⟩
        go_wp2_with fail
        go_ret2
        exact ⟨up2 HB.out (up2 hb1 hb2), .inl ⟨q + 1, hk1, hlt, HC.out.trans hxc, HNO.out, rfl⟩⟩
      · have d2 : ((x : Int) == (c : Int)) = false := by simp; omega
        go_wp2_with fail
        refine HS.out.mono ?_
        rintro e w1 ⟨rfl, hb1⟩
        go_wp2_with fail
        refine (HR.out w1 hb1).mono ?_
        rintro e w2 ⟨rfl, hb2⟩
        go_wp2_with fail
        go_roundw
        case rel =>
          refine ⟨q + 1 + 1, by omega, hk3, by go_num, fun j hj hj2 => ?_, up2 HB.out (up2 hb1 hb2)⟩
          by_cases e : j = q + 1
          · rw [e, HC.out]; exact hxc
          · exact HNO.out j hj (by omega)
        case measure => simp [intOf]; omega
    · have d1 : decide ((k : Int) < hi) = false := decide_eq_false (by omega)
      go_wp2_with fail
      refine HS.out.mono ?_
      rintro e w1 ⟨rfl, hb1⟩
      go_wp2_with fail
      go_ret2
      exact ⟨up2 HB.out hb1, .inr ⟨fun j hj hj2 => HNO.out j hj (by omega), rfl⟩⟩
set_option maxRecDepth 100000 in
set_option maxHeartbeats 2000000 in
theorem gfindback (h : GapR w t g cs) (c lo hi : Nat) (h1 : 1 ≤ lo) (h2 : hi ≤ cs.length + 1) (h3 : 1 ≤ hi) : Calls Tryz.prog 87 #[.pointer (some ⟨t, 0, none⟩), .int .i64 c, .int .i64 lo, .int .i64 hi] w (FindBackP w cs c lo hi) := by
  have hl := h.len
  have HG := Lib.hid h
  have m1 : max (lo : Int) 1 = lo := by omega
  have m3 : max (hi : Int) 1 = hi := by omega
  have m2 : min (hi : Int) ((cs.length : Int) + 1) = hi := by omega
  have s1 : IntKind.i64.wrap ((cs.length : Int) + 1) = (cs.length : Int) + 1 := IntWalk.i64_in _ (by omega)
  have s0 : IntKind.i64.wrap ((hi : Int) - 1) = ((hi - 1 : Nat) : Int) := by rw [IntWalk.i64_in _ (by omega)]; omega
  have HS0 := Lib.hid (gsize h)
  clear h
  go_enter Tryz.func87, Tryz.ntmps87
  go_wp2_with fail
  refine HS0.out.mono ?_
  rintro e w0 ⟨rfl, hb0⟩
  have HB0 := Lib.hid hb0
  clear hb0
  go_wp2_with fail
  go_loopw [10] (fun va wr => ∃ k : Nat, k < hi ∧ va = .int .i64 k ∧ (∀ j, k < j → j < hi → chr cs j ≠ c) ∧ Below w.heap.size w wr) (fun va _ => (intOf va).toNat)
  case atStart => exact ⟨hi - 1, by omega, rfl, fun j h h2 => by omega, HB0.out⟩
  case round =>
    obtain ⟨k, hk1, rfl, hno, hbel⟩ := hrel
    have HNO := Lib.hid hno
    have HB := Lib.hid hbel
    clear hno hbel
    by_cases hlt : lo ≤ k
    · have d1 : decide ((lo : Int) ≤ k) = true := decide_eq_true (by omega)
      obtain ⟨q, rfl⟩ : ∃ q, k = q + 1 := ⟨k - 1, by omega⟩
      have s2 : IntKind.i64.wrap (((q + 1 : Nat) : Int) - 1) = (q : Int) := by rw [IntWalk.i64_in _ (by omega)]; omega
      have HR := Lib.hid (grune (HG.out.up HB.out) q (by omega))
      rw [chr_get] at HR
      have hcb := chr_cap HG.out (q + 1)
      have HQ : Hid (chr cs (q + 1) = chr cs (q + 1)) := Lib.hid rfl
      generalize hc : chr cs (q + 1) = x at HR hcb HQ
      have HC := Lib.hid hc
      clear hc HQ h2 h3
      by_cases hxc : x = c
      · have d2 : ((x : Int) == (c : Int)) = true := by simp [hxc]
        go_wp2_with fail
        refine HR.out.mono ?_
        rintro e w2 ⟨rfl, hb2⟩
        go_wp2_with fail
        go_ret2
        exact ⟨up2 HB.out hb2, .inl ⟨q + 1, hlt, hk1, HC.out.trans hxc, HNO.out, rfl⟩⟩
      · have d2 : ((x : Int) == (c : Int)) = false := by simp; omega
        go_wp2_with fail
        refine HR.out.mono ?_
        rintro e w2 ⟨rfl, hb2⟩
        go_wp2_with fail
        go_roundw
        case rel =>
          refine ⟨q, by omega, by first | rfl | go_num, fun j hj hj2 => ?_, up2 HB.out hb2⟩
          by_cases e : j = q + 1
          · rw [e, HC.out]; exact hxc
          · exact HNO.out j (by omega) hj2
        case measure => simp [intOf]
    · have d1 : decide ((lo : Int) ≤ k) = false := decide_eq_false (by omega)
      go_wp2_with fail
      go_ret2
      exact ⟨HB.out, .inr ⟨fun j hj hj2 => HNO.out j (by omega) hj2, rfl⟩⟩
end
end Go.Proofs.YtklaeecegkpgmaaGreatDoor
/- A buffer in memory, read: none, Size, Point, Reach, Char, Find, FindBack. -/
namespace Go.Proofs.YtklaeecegkpgmaaGreatDoor
open Go.RowKit
set_option linter.unusedVariables false
set_option linter.unusedSimpArgs false

/-- The buffer object at block b: point, the accessible part, the text. -/
structure BufI (w : World) (b t g : Nat) (cs : List Nat) (pt lo hi : Nat) : Prop where
  c0 : w.cell? ⟨b, 0, none⟩ = some (.int .i64 pt)
  c1 : w.cell? ⟨b, 1, none⟩ = some (.int .i64 lo)
  c2 : w.cell? ⟨b, 2, none⟩ = some (.int .i64 hi)
  c9 : w.cell? ⟨b, 9, none⟩ = some (.pointer (some ⟨t, 0, none⟩))
  gap : GapR w t g cs
  hbt : b ≠ t
  hbg : b ≠ g
  h1 : 1 ≤ lo
  h2 : lo ≤ pt
  h3 : pt ≤ hi
  h4 : hi ≤ cs.length + 1
def BufR (w : World) (b : Nat) (cs : List Nat) (pt lo hi : Nat) : Prop := ∃ t g, BufI w b t g cs pt lo hi
section
variable {w w' : World} {b t g pt lo hi : Nat} {cs : List Nat}
theorem BufI.lt (h : BufI w b t g cs pt lo hi) : b < w.heap.size := lt_of_cell h.c0
theorem BufI.up (h : BufI w b t g cs pt lo hi) (hb : Below w.heap.size w w') : BufI w' b t g cs pt lo hi :=
  have e := hb.block b h.lt
  ⟨(World.cell?_of_block (w := w) (a := ⟨b, 0, none⟩) e).trans h.c0, (World.cell?_of_block (w := w) (a := ⟨b, 1, none⟩) e).trans h.c1, (World.cell?_of_block (w := w) (a := ⟨b, 2, none⟩) e).trans h.c2, (World.cell?_of_block (w := w) (a := ⟨b, 9, none⟩) e).trans h.c9,
    h.gap.up hb, h.hbt, h.hbg, h.h1, h.h2, h.h3, h.h4⟩
theorem BufR.up (h : BufR w b cs pt lo hi) (hb : Below w.heap.size w w') : BufR w' b cs pt lo hi := by obtain ⟨t, g, h⟩ := h; exact ⟨t, g, h.up hb⟩
theorem BufR.lt (h : BufR w b cs pt lo hi) : b < w.heap.size := by obtain ⟨t, g, h⟩ := h; exact h.lt
theorem BufR.len (h : BufR w b cs pt lo hi) : cs.length ≤ 1000000 ∧ 1 ≤ lo ∧ lo ≤ pt ∧ pt ≤ hi ∧ hi ≤ cs.length + 1 := by obtain ⟨t, g, h⟩ := h; exact ⟨h.gap.len, h.h1, h.h2, h.h3, h.h4⟩
set_option maxHeartbeats 1000000 in
theorem bnone (h : BufR w b cs pt lo hi) : Calls Tryz.prog 64 #[.pointer (some ⟨b, 0, none⟩)] w fun e w' => e = .returned (.bool false) ∧ w = w' := by
  obtain ⟨t, g, h⟩ := h
  have c9 := h.c9
  clear h
  go_enter Tryz.func64, Tryz.ntmps64
  go_wp2_with fail
  go_ret
  exact ⟨rfl, rfl⟩
set_option maxHeartbeats 1000000 in
theorem bpoint (h : BufR w b cs pt lo hi) : Calls Tryz.prog 43 #[.pointer (some ⟨b, 0, none⟩)] w fun e w' => e = .returned (.int .i64 pt) ∧ w = w' := by
  have HN := Lib.hid (bnone h)
  obtain ⟨t, g, h⟩ := h
  have c0 := h.c0
  clear h
  go_enter Tryz.func43, Tryz.ntmps43
  go_wp2_with fail
  refine HN.out.mono ?_
  rintro e w' ⟨rfl, rfl⟩
  go_wp2_with fail
  go_ret
  exact ⟨rfl, rfl⟩
set_option maxHeartbeats 1000000 in
theorem breach (h : BufR w b cs pt lo hi) : Calls Tryz.prog 44 #[.pointer (some ⟨b, 0, none⟩)] w fun e w' => e = .returned (.tuple #[.int .i64 lo, .int .i64 hi]) ∧ Below w.heap.size w w' := by
  have HN := Lib.hid (bnone h)
  obtain ⟨t, g, h⟩ := h
  have c1 := h.c1
  have c2 := h.c2
  clear h
  go_enter Tryz.func44, Tryz.ntmps44
  go_wp2_with fail
  refine HN.out.mono ?_
  rintro e w' ⟨rfl, rfl⟩
  go_wp2_with fail
  go_region
  go_wp2_with fail
  go_ret2
  exact ⟨rfl, (Below.refl _ w).drew⟩
set_option maxHeartbeats 1000000 in
theorem bchar (h : BufR w b cs pt lo hi) (k : Nat) (h1 : 1 ≤ k) (hk : k ≤ cs.length) : Calls Tryz.prog 29 #[.pointer (some ⟨b, 0, none⟩), .int .i64 k] w fun e w' => e = .returned (.tuple #[.int .i64 (chr cs k : Nat), .bool true]) ∧ Below w.heap.size w w' := by
  have HN := Lib.hid (bnone h)
  obtain ⟨t, g, h⟩ := h
  obtain ⟨q, rfl⟩ : ∃ q, k = q + 1 := ⟨k - 1, by omega⟩
  have HS := Lib.hid (gchar h.gap q (by omega))
  have c9 := h.c9
  generalize ((q + 1 : Nat) : Int) = z at *
  clear h h1 hk
  go_enter Tryz.func29, Tryz.ntmps29
  go_wp2_with fail
  refine HN.out.mono ?_
  rintro e w' ⟨rfl, rfl⟩
  go_wp2_with fail
  refine HS.out.mono ?_
  rintro e w' ⟨rfl, hb⟩
  go_wp2_with fail
  go_ret2
  exact ⟨rfl, hb⟩
set_option maxHeartbeats 1000000 in
theorem bchar_no (h : BufR w b cs pt lo hi) (k : Int) (h1 : k < 1 ∨ (cs.length : Int) < k) : Calls Tryz.prog 29 #[.pointer (some ⟨b, 0, none⟩), .int .i64 k] w fun e w' => e = .returned (.tuple #[.int .i64 0, .bool false]) ∧ Below w.heap.size w w' := by
  have HN := Lib.hid (bnone h)
  obtain ⟨t, g, h⟩ := h
  have HS := Lib.hid (gchar_no h.gap k h1)
  have c9 := h.c9
  clear h h1
  go_enter Tryz.func29, Tryz.ntmps29
  go_wp2_with fail
  refine HN.out.mono ?_
  rintro e w' ⟨rfl, rfl⟩
  go_wp2_with fail
  refine HS.out.mono ?_
  rintro e w' ⟨rfl, hb⟩
  go_wp2_with fail
  go_ret2
  exact ⟨rfl, hb⟩
set_option maxHeartbeats 1000000 in
theorem bfind (h : BufR w b cs pt lo hi) (c l k : Nat) (h1 : 1 ≤ l) (h2 : k ≤ cs.length + 1) (h3 : l ≤ cs.length + 1) : Calls Tryz.prog 46 #[.pointer (some ⟨b, 0, none⟩), .int .i64 c, .int .i64 l, .int .i64 k] w (FindP w cs c l k) := by
  have HN := Lib.hid (bnone h)
  obtain ⟨t, g, h⟩ := h
  have HS := Lib.hid (gfind h.gap c l k h1 h2 h3)
  have c9 := h.c9
  clear h h1 h2 h3
  go_enter Tryz.func46, Tryz.ntmps46
  go_wp2_with fail
  refine HN.out.mono ?_
  rintro e w' ⟨rfl, rfl⟩
  go_wp2_with fail
  refine HS.out.mono ?_
  rintro e w' ⟨hb, h⟩
  have HB := Lib.hid hb
  clear hb
  rcases h with ⟨i, i1, i2, i3, i4, rfl⟩ | ⟨i1, rfl⟩
  · go_wp2_with fail
    go_ret2
    exact ⟨HB.out, .inl ⟨i, i1, i2, i3, i4, rfl⟩⟩
  · go_wp2_with fail
    go_ret2
    exact ⟨HB.out, .inr ⟨i1, rfl⟩⟩
set_option maxHeartbeats 1000000 in
theorem bfindback (h : BufR w b cs pt lo hi) (c l k : Nat) (h1 : 1 ≤ l) (h2 : k ≤ cs.length + 1) (h3 : 1 ≤ k) : Calls Tryz.prog 45 #[.pointer (some ⟨b, 0, none⟩), .int .i64 c, .int .i64 l, .int .i64 k] w (FindBackP w cs c l k) := by
  have HN := Lib.hid (bnone h)
  obtain ⟨t, g, h⟩ := h
  have HS := Lib.hid (gfindback h.gap c l k h1 h2 h3)
  have c9 := h.c9
  clear h h1 h2 h3
  go_enter Tryz.func45, Tryz.ntmps45
  go_wp2_with fail
  refine HN.out.mono ?_
  rintro e w' ⟨rfl, rfl⟩
  go_wp2_with fail
  refine HS.out.mono ?_
  rintro e w' ⟨hb, h⟩
  have HB := Lib.hid hb
  clear hb
  rcases h with ⟨i, i1, i2, i3, i4, rfl⟩ | ⟨i1, rfl⟩
  · go_wp2_with fail
    go_ret2
    exact ⟨HB.out, .inl ⟨i, i1, i2, i3, i4, rfl⟩⟩
  · go_wp2_with fail
    go_ret2
    exact ⟨HB.out, .inr ⟨i1, rfl⟩⟩
end
end Go.Proofs.YtklaeecegkpgmaaGreatDoor
