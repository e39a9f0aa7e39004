import Derived.Test.YtnbccoelbfgmgaaGreatDoorZ01
import Derived.Test.YtnbccoelbfgmgaaGreatDoorZ03
import Derived.Laws.IdiomCopy
import Derived.Laws.MakeOwn
import Derived.Test.YtnbccoelbfgmgaaGreatDoorZ00
import Derived.Test.YtnbccoelbfgmgaaGreatDoorZ02
import Derived.IntWalk
import Derived.Test.YtnbccoelbfgmgaaGreatDoorKrB
import Derived.Lib.IndexBytes
import Derived.BigRegion
/- A fresh text: move, grow. -/
namespace Go.Proofs.YtnbccoelbfgmgaaGreatDoor
open Go.RowKit
set_option linter.unusedVariables false
set_option linter.unusedSimpArgs false
/-- The cells of a text's block. -/
abbrev txtC (g L cap st en : Nat) (f : Value) : Array Value := #[.slice (some ⟨g, 0, none⟩) L cap, .int .i64 st, .int .i64 en, f]
section
variable {w w' : World} {t g : Nat}
set_option maxHeartbeats 1000000 in
theorem gmove0 (f : Value) (h : Blk w t 164 (txtC g 0 0 0 0 f)) : Calls Tryz.prog 180 #[.pointer (some ⟨t, 0, none⟩), .int .i64 0] w fun e w' => e = .returned (.tuple #[]) ∧ Only (fun k => k = t) w w' ∧ Blk w' t 164 (txtC g 0 0 0 0 f) := by
  have c0 := h.cell (j := 0) rfl
  have c1 := h.cell (j := 1) rfl
  have c2 := h.cell (j := 2) rfl
  have f1 := h.fz 1
  have f2 := h.fz 2
  have cp := fun w ty => run_copy_none (P := Tryz.prog) w 162 162 ty 21 (some ⟨g, 0, none⟩) (some ⟨g, 0, none⟩) 0 0 0 0 Tryz.underlying162 (by kernel_rfl) rfl
  have H := Lib.hid h
  clear h
  go_enter Tryz.func180, Tryz.ntmps180
  go_wp2_with fail
  go_region
  go_wp2_with fail
  go_region
  go_wp2_with fail
  go_end0
  refine ⟨rfl, ((((Only.refl (fun k => k = t) w).setCell (p := ⟨t, 1, none⟩) rfl _).setCell (p := ⟨t, 2, none⟩) rfl _).drew).drew, ?_⟩
  exact ((H.out.set (j := 1) (by simp) (.int .i64 0)).set (j := 2) (by simp) (.int .i64 0))
set_option maxRecDepth 100000 in
set_option maxHeartbeats 1000000 in
theorem ggrow0 (f : Value) (n : Nat) (hn : n ≤ 100000) (h : Blk w t 164 (txtC g 0 0 0 0 f)) (h1 : 1 ≤ n) : Calls Tryz.prog 181 #[.pointer (some ⟨t, 0, none⟩), .int .i64 n] w fun e w' => e = .returned (.tuple #[]) ∧ Only (fun k => k = t) w w' ∧
    Blk w' t 164 (txtC w.heap.size (n + 16) (n + 16) 0 (n + 16) f) ∧ w'.heap.size = w.heap.size + 1 ∧ Blk w' w.heap.size 21 (Array.replicate (n + 16) (.int .i32 0)) := by
  have c0 := h.cell (j := 0) rfl
  have c1 := h.cell (j := 1) rfl
  have c2 := h.cell (j := 2) rfl
  have f0 := h.fz 0
  have f2 := h.fz 2
  have ht := h.lt
  have d1 : decide ((n : Int) ≤ 0) = false := decide_eq_false (by omega)
  have s1 : IntKind.i64.wrap ((n : Int) - 0) = (n : Int) := by rw [IntWalk.i64_in _ (by omega)]; omega
  have s2 : IntKind.i64.wrap ((n : Int) + 0) = (n : Int) := by rw [IntWalk.i64_in _ (by omega)]; omega
  have hmk : ∀ w : World, (Instr.makeSlice 162 (.int .i64 ((n : Int) + 16)) (.int .i64 ((n : Int) + 16))).run Tryz.prog w = .ok (.slice (some ⟨w.heap.size, 0, none⟩) (n + 16) (n + 16)) (w.alloc (.cells (Array.replicate (n + 16) (.int .i32 0)) 21)) := fun w => by
    obtain ⟨i, hi, hsz, hby, hz⟩ : ∃ i, Tryz.prog.info? 21 = some i ∧ i.size = 1 ∧ i.bytes = 4 ∧ i.zero = some (.int .i32 0) := ⟨(Tryz.prog.info? 21).get (by kernel_rfl), (Option.some_get _).symm, by kernel_rfl, by kernel_rfl, by kernel_rfl⟩
    have hr := run_makeSlice (P := Tryz.prog) (w := w) 162 21 i (.int .i32 0) Tryz.underlying162 hi hz .i64 .i64 ((n : Int) + 16) ((n : Int) + 16) (by omega) (by omega) (by rw [hsz]; omega) (by rw [hby]; omega) (by omega)
    rw [hr, hsz]
    have e1 : ((n : Int) + 16).toNat = n + 16 := by omega
    have e2 : madeCells (Value.int .i32 0).cells ((n + 16) * 1) = Array.replicate (n + 16) (.int .i32 0) := by
      rw [Nat.mul_one]
      apply Array.ext
      · simp [madeCells]
      · intro j h1 h2
        simp [madeCells, Value.cells, Nat.mod_one]
    rw [e1, e2]
  generalize hZ : Array.replicate (n + 16) (Value.int .i32 0) = Z at *
  have cp := fun w ty d dLen dCap => run_copy_none (P := Tryz.prog) w 162 162 ty 21 d (some ⟨g, 0, none⟩) dLen dCap 0 0 Tryz.underlying162 (by kernel_rfl) (Nat.zero_min dLen)
  have H := Lib.hid h
  clear h
  go_enter Tryz.func181, Tryz.ntmps181
  go_wp2_with fail
  go_region
  go_wp2_with fail
  go_region
  go_wp2_with fail
  go_region
  go_wp2_with fail
  go_end0
  have hb2 := (H.out.set (j := 0) (by simp) (.slice (some ⟨w.heap.size, 0, none⟩) (n + 16) (n + 16))).set (j := 2) (by simp) (.int .i64 ((n : Int) + 16))
  have ho := ((Only.refl (fun k => k = t) w).setCell (p := ⟨t, 0, none⟩) rfl (.slice (some ⟨w.heap.size, 0, none⟩) (n + 16) (n + 16))).setCell (p := ⟨t, 2, none⟩) rfl (.int .i64 ((n : Int) + 16))
  have hs2 : ((w.setCell ⟨t, 0, none⟩ (.slice (some ⟨w.heap.size, 0, none⟩) (n + 16) (n + 16))).setCell ⟨t, 2, none⟩ (.int .i64 ((n : Int) + 16))).heap.size = w.heap.size := by simp
  generalize (w.setCell ⟨t, 0, none⟩ (.slice (some ⟨w.heap.size, 0, none⟩) (n + 16) (n + 16))).setCell ⟨t, 2, none⟩ (.int .i64 ((n : Int) + 16)) = W at *
  refine ⟨rfl, (((ho.alloc _).drew).drew).drew, ?_, ?_, ?_⟩
  · exact (hb2.up (below1 W (.cells Z 21)) : Blk _ _ _ _)
  · show (W.alloc (.cells Z 21)).heap.size = _
    simp [hs2]
  · have := Blk.made W 21 Z
    rw [hs2] at this
    exact this
end
end Go.Proofs.YtnbccoelbfgmgaaGreatDoor
/- Package copyistref01: tail, Is, point, List, Valid, Len. -/
namespace Go.Proofs.YtnbccoelbfgmgaaGreatDoor
open Go.RowKit
set_option linter.unusedVariables false
set_option linter.unusedSimpArgs false

theorem bAt_get (s : ByteArray) (i : Nat) (h : i < s.size) : bAt s.data.toList i = s[i].toNat := by
  unfold bAt
  rw [List.getD_eq_getElem?_getD, List.getElem?_eq_getElem (by simpa using h)]
  rfl
theorem isI (c : Nat) (h : isN c) : (c : Int) ≤ 1114111 ∧ ((c : Int) < 55296 ∨ (57343 : Int) < c) := by unfold isN at h; omega
theorem notI (c : Nat) (h : ¬ isN c) : (1114111 : Int) < c ∨ ((c : Int) ≤ 1114111 ∧ (55296 : Int) ≤ c ∧ (c : Int) ≤ 57343) := by unfold isN at h; omega
def IsI (c : Int) : Bool := decide (c ≤ 1114111) && (decide (c < 55296) || decide (57343 < c))
end Go.Proofs.YtnbccoelbfgmgaaGreatDoor
/- Package copyistref01: point: the first character of a string and its length, as ptL says. -/
namespace Go.Proofs.YtnbccoelbfgmgaaGreatDoor
open Go.RowKit
set_option linter.unusedVariables false
set_option linter.unusedSimpArgs false
def PtPost (w : World) (c n : Nat) (e : Ending) (w' : World) : Prop := e = .returned (.tuple #[.int .i64 c, .int .i64 n]) ∧ Below w.heap.size w w'

theorem below_drewN {B : Nat} {a w : World} (h : Below B a w) (n : Nat) : Below B a (w.drewN n) := ⟨h.os, h.tape, h.output, h.size, h.block⟩

end Go.Proofs.YtnbccoelbfgmgaaGreatDoor
/- Package copyistref01: point, List, Valid, Len at every string; package runes: Len (how much at most). -/
namespace Go.Proofs.YtnbccoelbfgmgaaGreatDoor
open Go.RowKit
set_option linter.unusedVariables false
set_option linter.unusedSimpArgs false
abbrev encI (z : Int) : List Value := [.int .i64 z]
theorem eltI : Elt encI 53 3 1 8 (.int .i64 0) := ⟨Tryz.underlying53, by kernel_rfl, rfl, by omega, fun _ => rfl, fun x u hu => by simp at hu; subst hu; rfl⟩

theorem Calls.cong {P : Program} {f : FuncId} {args : Array Value} {w : World} {Q Q' : Ending → World → Prop} (h : Calls P f args w Q) (e : Q = Q') : Calls P f args w Q' := e ▸ h
theorem PtPost_eq (w : World) {c n c' n' : Nat} (h1 : c = c') (h2 : n = n') : PtPost w c n = PtPost w c' n' := by rw [h1, h2]
theorem size_len (s : ByteArray) : s.data.toList.length = s.size := by simp
/-- Handed back by List: the characters, or none. -/
def ListPost (w : World) (o : Option (List Nat)) (e : Ending) (w' : World) : Prop := Below w.heap.size w w' ∧ match o with
  | some cs => ∃ v, e = .returned (.tuple #[v, .int .i64 0]) ∧ ROwn encI 3 1 w.heap.size w' v (cs.map Int.ofNat)
  | none => e = .returned (.tuple #[.slice none 0 0, .int .i64 5])
def strSz : Value → Nat
  | .string t => t.size
  | _ => 0
theorem ne_of_size {t : ByteArray} (h : 0 < t.size) : t.data.toList ≠ [] := fun e => by
  have := congrArg List.length e
  rw [size_len, List.length_nil] at this
  omega
theorem extract_size (s : ByteArray) (a : Nat) (h : a ≤ s.size) : (s.extract a s.size).size = s.size - a := by simp
theorem vld_chars (s : ByteArray) : vld s = (charsD s.data.toList).isSome := (chars_valid _ _ (Nat.le_refl _)).symm
/-- How many characters: none if the string is not valid. -/
def lenR (s : ByteArray) : Nat := ((charsD s.data.toList).getD []).length
theorem lenR_le (s : ByteArray) : lenR s ≤ s.size := by
  unfold lenR
  cases h : charsD s.data.toList with
  | none => simp
  | some cs =>
    have := chars_len _ _ cs (Nat.le_refl _) h
    rw [size_len] at this
    simpa using this
/-- runes.Len, of a valid string. -/
def rlenG (s : ByteArray) : Nat := if vld s then Lib.runeCount s else 0
theorem rlenG_le (s : ByteArray) : rlenG s ≤ s.size := by
  unfold rlenG
  split
  · exact Lib.runeCount_le s
  · omega
set_option maxHeartbeats 1000000 in
theorem runesLen {N : Nat} (s : ByteArray) (w : World) (hs : s.size ≤ 1000000000) (hT : Tabs N w) : Calls Tryz.prog 38 #[.string s] w fun e w' => e = .returned (.int .i64 (rlenG s)) ∧ Below w.heap.size w w' := by
  have hV := valid_any s w hs hT
  unfold rlenG
  have HV := Lib.hid hV
  clear hV
  cases hv : vld s with
  | true =>
    rw [hv] at HV
    go_enter Tryz.func38, Tryz.ntmps38
    go_wp2_with fail
    refine HV.out.mono ?_
    rintro e w' ⟨rfl, hb⟩
    have hC : Calls Tryz.prog 78 #[.string s] w' _ := Any.utf8_RuneCountInString Tryz.laysCount s w' (by omega)
    go_wp2_with fail
    refine hC.mono ?_
    rintro e w2 ⟨rfl, pos, rfl⟩
    go_wp2_with fail
    go_ret
    exact ⟨ret_int (by simp), up2 hb (below1 _ _)⟩
  | false =>
    rw [hv] at HV
    go_enter Tryz.func38, Tryz.ntmps38
    go_wp2_with fail
    refine HV.out.mono ?_
    rintro e w' ⟨rfl, hb⟩
    go_wp2_with fail
    go_ret
    exact ⟨ret_int (by simp), hb⟩
end Go.Proofs.YtnbccoelbfgmgaaGreatDoor
/- slices.BinarySearch and slices.Insert at an empty list; how many characters a string has. -/
namespace Go.Proofs.YtnbccoelbfgmgaaGreatDoor
open Go.RowKit
set_option linter.unusedVariables false
set_option linter.unusedSimpArgs false
theorem count_chars (s : ByteArray) : ∀ (n pos : Nat) (cs : List Nat), s.size - pos ≤ n → pos ≤ s.size → charsD (s.data.toList.drop pos) = some cs → Lib.runeCountFrom s n pos = cs.length
  | 0, pos, cs, h1, h2, h => by
    have e : pos = s.size := by omega
    have : s.data.toList.drop pos = [] := List.drop_eq_nil_of_le (by rw [e]; simp)
    rw [this, charsD_nil] at h
    cases h; rfl
  | n + 1, pos, cs, h1, h2, h => by
    unfold Lib.runeCountFrom
    by_cases hp : pos < s.size
    · rw [if_pos hp]
      obtain ⟨c, t, rfl, _, hd, hle, hr, _⟩ := decode_step hp h
      rw [count_chars s n _ t (by omega) hle hr]
      simp; omega
    · rw [if_neg hp]
      have : s.data.toList.drop pos = [] := List.drop_eq_nil_of_le (by simp; omega)
      rw [this, charsD_nil] at h
      cases h; rfl
theorem rlenG_chars {s : ByteArray} (h : (charsD s.data.toList).isSome = true) : rlenG s = (chrs s).length := by
  obtain ⟨cs, hc⟩ := Option.isSome_iff_exists.1 h
  unfold rlenG
  rw [vld_chars, h, if_pos rfl]
  unfold chrs Lib.runeCount
  rw [hc]
  exact count_chars s s.size 0 cs (by omega) (by omega) (by simpa using hc)
section
variable {w w' : World}
set_option maxHeartbeats 1000000 in
theorem bsearch_nil (x : Int) : Calls Tryz.prog 182 #[.slice none 0 0, .int .i64 x] w fun e w' => e = .returned (.tuple #[.int .i64 0, .bool false]) ∧ w = w' := by
  go_enter Tryz.func182, Tryz.ntmps182
  go_wp2_with fail
  go_loopw [7, 8] (fun va vb wr => va = .int .i64 0 ∧ vb = .int .i64 0 ∧ w = wr) (fun _ _ _ => 0)
  case atStart => exact ⟨rfl, rfl, rfl⟩
  case round =>
    obtain ⟨rfl, rfl, rfl⟩ := hrel
    go_wp2_with fail
    go_ret2
    exact ⟨rfl, rfl⟩
set_option maxHeartbeats 1000000 in
theorem sinsert_nil {B : Nat} {v : Value} {ys : List Int} (hB : B ≤ w.heap.size) (hv : ROwn encI 3 1 B w v ys) (hl : ys.length ≤ 1000000) : Calls Tryz.prog 183 #[.slice none 0 0, .int .i64 0, v] w fun e w' => ∃ v', e = .returned v' ∧ ROwn encI 3 1 B w' v' ys ∧ Below w.heap.size w w' := by
  obtain ⟨A, cap, rfl, h1, h2, h3⟩ := hv.shape eltI
  clear hv h1 h2
  by_cases h0 : ys.length = 0
  · obtain rfl : ys = [] := List.eq_nil_of_length_eq_zero h0
    clear h3 h0 hl
    simp only [List.length_nil]
    go_enter Tryz.func183, Tryz.ntmps183
    go_wp2_with fail
    go_ret
    exact ⟨_, rfl, ROwn.nil _ _, Below.refl _ w⟩
  · obtain ⟨v', w2, hrun, hown, hgr, hsz⟩ := append_run eltI (ROwn.nil (enc := encI) (E := 3) (k := 1) B w) hB h3 cap (by simp; omega) (by omega)
    rw [List.nil_append] at hown
    have d0 : ((ys.length : Int) == 0) = false := by simpa using h0
    have HR := Lib.hid hrun
    have hbel : Below w.heap.size w w2 := (Below.refl w.heap.size w).grown hgr (Nat.le_refl _) (fun k hk => by simp [Value.ownBlock] at hk)
    have HB := Lib.hid hbel
    have HO := Lib.hid hown
    clear hrun hgr hsz hbel hown h3 h0 hl hB
    generalize ys.length = L at *
    go_enter Tryz.func183, Tryz.ntmps183
    go_wp2_with (at_builtin; refine wpList_app_run rfl _ _ _ rfl rfl rfl HR.out ?_)
    go_ret
    exact ⟨_, rfl, HO.out, HB.out⟩
end
end Go.Proofs.YtnbccoelbfgmgaaGreatDoor
/- package gap: move and grow, any text. -/
namespace Go.Proofs.YtnbccoelbfgmgaaGreatDoor
open Go.RowKit Go.Lib
set_option linter.unusedVariables false
set_option linter.unusedSimpArgs false
section
variable {P : Program} {w : World}
/-- A list with values laid over it from o on. -/
def stL (cur : List Value) : Nat → List Value → List Value
  | _, [] => cur
  | o, v :: r => stL (cur.set o v) (o + 1) r
theorem stL_eq : ∀ (vs cur : List Value) (o : Nat), o + vs.length ≤ cur.length → stL cur o vs = cur.take o ++ vs ++ cur.drop (o + vs.length)
  | [], cur, o, h => by simp [stL]
  | v :: r, cur, o, h => by
    simp only [List.length_cons] at h
    rw [stL, stL_eq r (cur.set o v) (o + 1) (by simp; omega)]
    have h1 : (cur.set o v).take (o + 1) = cur.take o ++ [v] := by
      rw [List.take_succ_eq_append_getElem (by simp; omega), List.take_set_of_le (Nat.le_refl _)]; simp
    have h2 : (cur.set o v).drop (o + 1 + r.length) = cur.drop (o + 1 + r.length) := List.drop_set_of_lt (by omega)
    rw [h1, h2, List.length_cons, show o + (r.length + 1) = o + 1 + r.length by omega]
    simp
theorem stL_length : ∀ (vs cur : List Value) (o : Nat), (stL cur o vs).length = cur.length
  | [], cur, o => rfl
  | v :: r, cur, o => by rw [stL, stL_length r]; simp
theorem heap_setCells {g : Nat} {E : TypeId} : ∀ (vs : List Value) (o : Nat) (w : World) (cur : List Value), w.heap[g]? = some (.cells cur.toArray E (0, 0)) → (w.setCells g o vs).heap[g]? = some (.cells (stL cur o vs).toArray E (0, 0))
  | [], o, w, cur, h => h
  | v :: r, o, w, cur, h => by
    rw [World.setCells, stL]
    refine heap_setCells r (o + 1) _ _ ?_
    have := heap_setCell_same w g o _ _ v h
    simpa using this
theorem only_setCells {g : Nat} : ∀ (vs : List Value) (o : Nat) (w : World), Only (· = g) w (w.setCells g o vs)
  | [], o, w => Only.refl _ _
  | v :: r, o, w => ((Only.refl (· = g) w).setCell (p := ⟨g, o, none⟩) rfl v).trans (only_setCells r (o + 1) _)
theorem size_setCells {g : Nat} : ∀ (vs : List Value) (o : Nat) (w : World), (w.setCells g o vs).heap.size = w.heap.size
  | [], o, w => rfl
  | v :: r, o, w => by rw [World.setCells, size_setCells r (o + 1)]; simp
end
abbrev encR (z : Int) : Value := .int .i32 z
abbrev rowR (B : List Int) : Array Value := (B.map encR).toArray
theorem infoR : (Tryz.prog.info? 21).map (·.size) = some 1 := by kernel_rfl
/-- B with the part S[p:p+n] laid over it from o on. -/
def laidOver (B : List Int) (o : Nat) (S : List Int) (p n : Nat) : List Int := B.take o ++ (S.drop p).take n ++ B.drop (o + n)
theorem laidOver_len {B S : List Int} {o p n : Nat} (ho : o + n ≤ B.length) (hp : p + n ≤ S.length) : (laidOver B o S p n).length = B.length := by
  unfold laidOver
  simp only [List.length_append, List.length_take, List.length_drop]; omega
theorem laidOver_zero (B S : List Int) (o p : Nat) : laidOver B o S p 0 = B := by simp [laidOver]
theorem copy_over {w : World} {gd gs o p n dl dc sl sc : Nat} {D S : List Int} (hD : Blk w gd 21 (rowR D)) (hS : Blk w gs 21 (rowR S)) (ho : o + n ≤ D.length) (hp : p + n ≤ S.length) (hn : Nat.min sl dl = n) :
    ∃ w', (∀ ty ad az, (0 < n → ad = some ⟨gd, o, none⟩ ∧ az = some ⟨gs, p, none⟩) → (Builtin.copy_ #[162, 162] ty #[.slice ad dl dc, .slice az sl sc]).run Tryz.prog w = .ok (goInt n) w') ∧
      Only (· = gd) w w' ∧ Blk w' gd 21 (rowR (laidOver D o S p n)) ∧ w'.heap.size = w.heap.size := by
  rcases Nat.eq_zero_or_pos n with h0 | h0
  · subst h0
    refine ⟨w, fun ty ad az _ => ?_, Only.refl _ _, by rw [laidOver_zero]; exact hD, rfl⟩
    have := run_copy_none (P := Tryz.prog) w 162 162 ty 21 ad az dl dc sl sc Tryz.underlying162 infoR hn
    simpa using this
  · have hl : (((S.drop p).take n).map encR).length = n := by simp; omega
    refine ⟨w.setCells gd o (((S.drop p).take n).map encR), fun ty ad az h => ?_, only_setCells _ _ _, ?_, size_setCells _ _ _⟩
    · obtain ⟨rfl, rfl⟩ := h h0
      have := run_copy_cells (P := Tryz.prog) w 162 162 ty 21 gd o dl dc ⟨gs, p, none⟩ sl sc (((S.drop p).take n).map encR) Tryz.underlying162 infoR (by rw [hl, hn])
        (fun j v hj => by
          have hj2 : j < n := by have := List.getElem?_eq_some_iff.1 hj; obtain ⟨h1, _⟩ := this; omega
          rw [Addr.add_lit]
          refine hS.cell ?_
          rw [List.getElem?_map] at hj
          rw [List.getElem?_take_of_lt hj2, List.getElem?_drop] at hj
          simpa using hj)
        (fun j hj => by
          have : o + j < D.length := by rw [hl] at hj; omega
          rw [hD.cell (j := o + j) (v := encR D[o + j]) (by simp [this])]; rfl)
        (fun j hj => hD.fz _) (fun v hv => by obtain ⟨z, _, rfl⟩ := List.mem_map.1 hv; rfl)
      rw [hl] at this
      exact this
    · have := heap_setCells (((S.drop p).take n).map encR) o w (D.map encR) hD
      rw [stL_eq _ _ _ (by rw [hl]; simp; omega), hl] at this
      unfold Blk
      rw [this]
      unfold laidOver
      simp
section
variable {w w' : World} {t g : Nat}
/-- The text object at its whole memory. -/
structure GapV (w : World) (t g : Nat) (B Xt : List Int) (st en : Nat) (fv : Value) : Prop where
  blk : Blk w t 164 (txtC g B.length (B.length + Xt.length) st en fv)
  buf : Blk w g 21 (rowR (B ++ Xt))
  tg : t ≠ g
  lim : B.length ≤ 200000
  h1 : st ≤ en
  h2 : en ≤ B.length
def GapW (w : World) (t g : Nat) (B : List Int) (st en : Nat) (fv : Value) : Prop := ∃ Xt, GapV w t g B Xt st en fv
theorem GapV.hide {B Xt : List Int} {st en : Nat} {fv : Value} (h : GapV w t g B Xt st en fv) : GapW w t g B st en fv := ⟨Xt, h⟩
section
variable {B : List Int} {st en : Nat} {fv : Value}
theorem GapW.tg (h : GapW w t g B st en fv) : t ≠ g := by obtain ⟨X, h⟩ := h; exact h.tg
theorem GapW.lim (h : GapW w t g B st en fv) : B.length ≤ 200000 := by obtain ⟨X, h⟩ := h; exact h.lim
theorem GapW.h1 (h : GapW w t g B st en fv) : st ≤ en := by obtain ⟨X, h⟩ := h; exact h.h1
theorem GapW.h2 (h : GapW w t g B st en fv) : en ≤ B.length := by obtain ⟨X, h⟩ := h; exact h.h2
theorem GapW.ltT (h : GapW w t g B st en fv) : t < w.heap.size := by obtain ⟨X, h⟩ := h; exact h.blk.lt
theorem GapW.ltG (h : GapW w t g B st en fv) : g < w.heap.size := by obtain ⟨X, h⟩ := h; exact h.buf.lt
theorem GapW.ex (h : GapW w t g B st en fv) : ∃ c, B.length ≤ c ∧ Blk w t 164 (txtC g B.length c st en fv) := by obtain ⟨X, h⟩ := h; exact ⟨_, Nat.le_add_right _ _, h.blk⟩
theorem GapW.c0 (h : GapW w t g B st en fv) : ∃ c, B.length ≤ c ∧ w.cell? ⟨t, 0, none⟩ = some (.slice (some ⟨g, 0, none⟩) B.length c) := by obtain ⟨c, h1, h3⟩ := h.ex; exact ⟨c, h1, h3.cell (j := 0) rfl⟩
theorem GapW.c1 (h : GapW w t g B st en fv) : w.cell? ⟨t, 1, none⟩ = some (.int .i64 st) := by obtain ⟨c, _, h3⟩ := h.ex; exact h3.cell (j := 1) rfl
theorem GapW.c2 (h : GapW w t g B st en fv) : w.cell? ⟨t, 2, none⟩ = some (.int .i64 en) := by obtain ⟨c, _, h3⟩ := h.ex; exact h3.cell (j := 2) rfl
theorem GapW.c3 (h : GapW w t g B st en fv) : w.cell? ⟨t, 3, none⟩ = some fv := by obtain ⟨c, _, h3⟩ := h.ex; exact h3.cell (j := 3) rfl
theorem GapW.fzT (h : GapW w t g B st en fv) (j : Nat) : w.frozen? ⟨t, j, none⟩ = false := by obtain ⟨c, _, h3⟩ := h.ex; exact h3.fz j
theorem GapW.fzG (h : GapW w t g B st en fv) (j : Nat) : w.frozen? ⟨g, j, none⟩ = false := by obtain ⟨X, h⟩ := h; exact h.buf.fz j
theorem GapW.at_ (h : GapW w t g B st en fv) {j : Nat} {z : Int} (hj : B[j]? = some z) : w.cell? ⟨g, j, none⟩ = some (encR z) := by
  obtain ⟨X, h⟩ := h
  refine h.buf.cell ?_
  have hl := (List.getElem?_eq_some_iff.1 hj).1
  show ((B ++ X).map encR).toArray[j]? = _
  rw [List.getElem?_toArray, List.getElem?_map, List.getElem?_append_left hl, hj]; rfl
theorem GapW.kept (h : GapW w t g B st en fv) (ht : w'.heap[t]? = w.heap[t]?) (hg : w'.heap[g]? = w.heap[g]?) : GapW w' t g B st en fv := by
  obtain ⟨X, h⟩ := h; exact ⟨X, h.blk.kept ht, h.buf.kept hg, h.tg, h.lim, h.h1, h.h2⟩
theorem GapW.up (h : GapW w t g B st en fv) (hb : Below w.heap.size w w') : GapW w' t g B st en fv := h.kept (hb.block _ h.ltT) (hb.block _ h.ltG)
theorem GapW.only {S : Nat → Prop} (h : GapW w t g B st en fv) (ho : Only S w w') (h1 : ¬ S t) (h2 : ¬ S g) : GapW w' t g B st en fv := h.kept (ho.block _ h.ltT h1) (ho.block _ h.ltG h2)
/-- A character stored. -/
theorem GapW.setG (h : GapW w t g B st en fv) {j : Nat} (hj : j < B.length) (z : Int) : GapW (w.setCell ⟨g, j, none⟩ (encR z)) t g (B.set j z) st en fv := by
  obtain ⟨X, h⟩ := h
  refine ⟨X, ?_, ?_, h.tg, by simpa using h.lim, h.h1, by simpa using h.h2⟩
  · rw [List.length_set]; exact h.blk.kept (Below.heap_setCell _ _ _ _ h.tg)
  · have := h.buf.set (j := j) (by simp; omega) (encR z)
    have e : rowR (B.set j z ++ X) = (rowR (B ++ X)).set j (encR z) (by simp; omega) := by
      apply Array.ext'
      show (B.set j z ++ X).map encR = (((B ++ X).map encR).toArray.set j (encR z) _).toList
      rw [← List.set_append_left _ _ hj]
      simp [List.map_set]
    rw [e]; exact this
theorem GapW.setS (h : GapW w t g B st en fv) (st' : Nat) (h1 : st' ≤ en) : GapW (w.setCell ⟨t, 1, none⟩ (.int .i64 st')) t g B st' en fv := by
  obtain ⟨X, h⟩ := h
  exact ⟨X, h.blk.set (j := 1) (by simp) _, h.buf.kept (Below.heap_setCell _ _ _ _ (fun e => h.tg e.symm)), h.tg, h.lim, h1, h.h2⟩
theorem GapW.setE (h : GapW w t g B st en fv) (en' : Nat) (h1 : st ≤ en') (h2 : en' ≤ B.length) : GapW (w.setCell ⟨t, 2, none⟩ (.int .i64 en')) t g B st en' fv := by
  obtain ⟨X, h⟩ := h
  exact ⟨X, h.blk.set (j := 2) (by simp) _, h.buf.kept (Below.heap_setCell _ _ _ _ (fun e => h.tg e.symm)), h.tg, h.lim, h1, h2⟩
theorem GapW.setF (h : GapW w t g B st en fv) (fv' : Value) : GapW (w.setCell ⟨t, 3, none⟩ fv') t g B st en fv' := by
  obtain ⟨X, h⟩ := h
  exact ⟨X, h.blk.set (j := 3) (by simp) _, h.buf.kept (Below.heap_setCell _ _ _ _ (fun e => h.tg e.symm)), h.tg, h.lim, h.h1, h.h2⟩
end
theorem laidOver_app {B X : List Int} {o p n : Nat} (ho : o + n ≤ B.length) (hp : p + n ≤ B.length) : laidOver (B ++ X) o (B ++ X) p n = laidOver B o B p n ++ X := by
  unfold laidOver
  rw [List.take_append_of_le_length (by omega), List.drop_append_of_le_length (by omega), List.drop_append_of_le_length (by omega), List.take_append_of_le_length (by simp; omega)]
  simp
theorem over_lo {B : List Int} {st en i : Nat} (h1 : st ≤ en) (h2 : en ≤ B.length) (hi : i ≤ st) :
    (laidOver B (i + (en - st)) B i (st - i)).take i ++ (laidOver B (i + (en - st)) B i (st - i)).drop (i + (en - st)) = B.take st ++ B.drop en := by
  unfold laidOver
  have e1 : (B.take (i + (en - st))).length = i + (en - st) := by simp; omega
  rw [List.append_assoc, List.take_append_of_le_length (by omega), List.take_take, Nat.min_eq_left (by omega)]
  rw [List.drop_append_of_le_length (by omega), show i + (en - st) + (st - i) = en by omega]
  rw [List.drop_eq_nil_of_le (by omega), List.nil_append, ← List.append_assoc]
  congr 1
  have := (List.take_append_drop i (B.take st))
  rw [List.take_take, Nat.min_eq_left hi, List.drop_take] at this
  exact this
theorem over_hi {B : List Int} {st en i : Nat} (h1 : st ≤ en) (h2 : en ≤ B.length) (hi : st ≤ i) (h3 : i + (en - st) ≤ B.length) :
    (laidOver B st B en (i - st)).take i ++ (laidOver B st B en (i - st)).drop (i + (en - st)) = B.take st ++ B.drop en := by
  unfold laidOver
  have e1 : (B.take st).length = st := by simp; omega
  have e2 : ((B.drop en).take (i - st)).length = i - st := by simp; omega
  have e3 : (B.take st ++ (B.drop en).take (i - st)).length = i := by rw [List.length_append, e1, e2]; omega
  rw [List.take_append_of_le_length (by omega), List.take_of_length_le (by omega)]
  have e4 : List.drop (i + (en - st)) (B.take st ++ (B.drop en).take (i - st) ++ B.drop (st + (i - st))) = B.drop (i + (en - st)) := by
    rw [List.drop_append, List.drop_eq_nil_of_le (by omega), List.nil_append, e3, List.drop_drop]; congr 1; omega
  rw [e4, List.append_assoc]
  congr 1
  have := List.take_append_drop (i - st) (B.drop en)
  rw [List.drop_drop, show en + (i - st) = i + (en - st) by omega] at this
  exact this
set_option maxHeartbeats 2000000 in
theorem gmove_lo {B : List Int} {st en i : Nat} {fv : Value} (h0 : GapW w t g B st en fv) (hi : i < st) :
    Calls Tryz.prog 180 #[.pointer (some ⟨t, 0, none⟩), .int .i64 i] w fun e w' => e = .returned (.tuple #[]) ∧ Only (fun k => k = t ∨ k = g) w w' ∧ GapW w' t g (laidOver B (i + (en - st)) B i (st - i)) i (i + (en - st)) fv ∧ w'.heap.size = w.heap.size := by
  obtain ⟨Xt, h⟩ := h0
  obtain ⟨cp, hcp0⟩ : ∃ c, c = B.length + Xt.length := ⟨_, rfl⟩
  have c0 : w.cell? ⟨t, 0, none⟩ = some (.slice (some ⟨g, 0, none⟩) B.length cp) := by rw [hcp0]; exact h.blk.cell (j := 0) rfl
  have c1 : w.cell? ⟨t, 1, none⟩ = some (.int .i64 st) := h.blk.cell (j := 1) rfl
  have c2 : w.cell? ⟨t, 2, none⟩ = some (.int .i64 en) := h.blk.cell (j := 2) rfl
  have f1 := h.blk.fz 1
  have f2 := h.blk.fz 2
  have q1 := h.h1
  have q2 := h.h2
  have q3 := h.lim
  obtain ⟨E, hE⟩ : ∃ E, E = i + (en - st) := ⟨_, rfl⟩
  rw [← hE]
  obtain ⟨G, hG⟩ : ∃ G, G = en - st := ⟨_, rfl⟩
  have s1 : IntKind.i64.wrap ((en : Int) - st) = (G : Int) := by rw [IntWalk.i64_in _ (by omega)]; omega
  have s2 : IntKind.i64.wrap ((i : Int) + (G : Int)) = (E : Int) := by rw [IntWalk.i64_in _ (by omega)]; omega
  have d1 : (i < st) = True := eq_true hi
  have e1 : E ≤ en := by omega
  have e2 : (cp = E) = False := eq_false (by omega)
  have e3 : (cp = i) = False := eq_false (by omega)
  obtain ⟨w1, hcp, ho1, hb1, hz1⟩ := copy_over (w := w.drew.drew) (gd := g) (gs := g) (o := E) (p := i) (n := st - i) (dl := en - E) (dc := cp - E) (sl := st - i) (sc := cp - i) h.buf h.buf (by simp; omega) (by simp; omega) (by show min (st - i) (en - E) = st - i; omega)
  have ht1 : Blk w1 t 164 _ := h.blk.kept (ho1.block t h.blk.lt h.tg)
  have k0 : w1.cell? ⟨t, 0, none⟩ = some (.slice (some ⟨g, 0, none⟩) B.length cp) := by rw [hcp0]; exact ht1.cell (j := 0) rfl
  have k1 : w1.cell? ⟨t, 1, none⟩ = some (.int .i64 st) := ht1.cell (j := 1) rfl
  have k2 : w1.cell? ⟨t, 2, none⟩ = some (.int .i64 en) := ht1.cell (j := 2) rfl
  have f3 := ht1.fz 1
  have f4 := ht1.fz 2
  have HT1 := Lib.hid ht1
  rw [laidOver_app (by omega) (by omega)] at hb1
  have HB1 := Lib.hid hb1
  have HO1 := Lib.hid ho1
  have HZ1 := Lib.hid hz1
  have htg := h.tg
  have HTG := Lib.hid htg
  clear ht1 hb1 ho1 hz1 htg
  have hcp1 := fun ty => hcp ty (some ⟨g, E, none⟩) (some ⟨g, i, none⟩) (fun _ => ⟨rfl, rfl⟩)
  have e4 : st ≤ B.length := by omega
  have g1 : st ≤ cp := by omega
  have g2 : en ≤ cp := by omega
  have g3 : i ≤ cp := by omega
  have g4 : E ≤ cp := by omega
  have HE := Lib.hid (⟨hE, hG, q1, q2, q3, hi⟩ : _ ∧ _ ∧ _ ∧ _ ∧ _ ∧ _)
  have e5 : i ≤ st := by omega
  clear h hE hG q1 q3 hi hcp hcp0
  go_enter Tryz.func180, Tryz.ntmps180
  go_wp2_with fail
  go_region
  go_wp2_with fail
  go_region
  go_wp2_with fail
  go_end0
  have hfin := ((HT1.out.set (j := 1) (by simp) (.int .i64 i)).set (j := 2) (by simp) (.int .i64 E))
  have hon : Only (fun k => k = t ∨ k = g) w _ := (((((Only.refl (fun k => k = t ∨ k = g) w).drew.drew).trans (HO1.out.mono (T := fun k => k = t ∨ k = g) (fun k hk => .inr hk))).setCell (p := ⟨t, 1, none⟩) (.inl rfl) (.int .i64 i)).setCell (p := ⟨t, 2, none⟩) (.inl rfl) (.int .i64 E))
  obtain ⟨hE, hG, q1, q2, q3, hi⟩ := HE.out
  refine ⟨rfl, hon, ⟨Xt, ?_, ?_, HTG.out, ?_, by omega, ?_⟩, ?_⟩
  · rw [laidOver_len (by omega) (by omega)]; exact hfin
  · refine Blk.kept HB1.out ?_
    rw [Below.heap_setCell _ _ _ _ (fun e => HTG.out e.symm), Below.heap_setCell _ _ _ _ (fun e => HTG.out e.symm)]
  · rw [laidOver_len (by omega) (by omega)]; exact q3
  · rw [laidOver_len (by omega) (by omega)]; omega
  · simp [HZ1.out]
set_option maxHeartbeats 2000000 in
theorem gmove_eq {B : List Int} {st en i : Nat} {fv : Value} (h0 : GapW w t g B st en fv) (hi : i = st) :
    Calls Tryz.prog 180 #[.pointer (some ⟨t, 0, none⟩), .int .i64 i] w fun e w' => e = .returned (.tuple #[]) ∧ Only (fun k => k = t ∨ k = g) w w' ∧ GapW w' t g (laidOver B st B en (i - st)) i (i + (en - st)) fv ∧ w'.heap.size = w.heap.size := by
  obtain ⟨Xt, h⟩ := h0
  obtain ⟨cp, hcp0⟩ : ∃ c, c = B.length + Xt.length := ⟨_, rfl⟩
  have c0 : w.cell? ⟨t, 0, none⟩ = some (.slice (some ⟨g, 0, none⟩) B.length cp) := by rw [hcp0]; exact h.blk.cell (j := 0) rfl
  have c1 : w.cell? ⟨t, 1, none⟩ = some (.int .i64 st) := h.blk.cell (j := 1) rfl
  have c2 : w.cell? ⟨t, 2, none⟩ = some (.int .i64 en) := h.blk.cell (j := 2) rfl
  have f1 := h.blk.fz 1
  have f2 := h.blk.fz 2
  have q1 := h.h1
  have q2 := h.h2
  have q3 := h.lim
  obtain ⟨E, hE⟩ : ∃ E, E = i + (en - st) := ⟨_, rfl⟩
  rw [← hE]
  obtain ⟨G, hG⟩ : ∃ G, G = en - st := ⟨_, rfl⟩
  have s1 : IntKind.i64.wrap ((en : Int) - st) = (G : Int) := by rw [IntWalk.i64_in _ (by omega)]; omega
  have s2 : IntKind.i64.wrap ((i : Int) + (G : Int)) = (E : Int) := by rw [IntWalk.i64_in _ (by omega)]; omega
  have d1 : (i < st) = False := eq_false (by omega)
  have e1 : st ≤ i := by omega
  have e6 : i ≤ B.length := by omega
  have e7 : en ≤ E := by omega
  have e8 : E ≤ B.length := by omega
  obtain ⟨w1, hcp, ho1, hb1, hz1⟩ := copy_over (w := w.drew.drew) (gd := g) (gs := g) (o := st) (p := en) (n := i - st) (dl := i - st) (dc := cp - st) (sl := E - en) (sc := cp - en) h.buf h.buf (by simp; omega) (by simp; omega) (by show min (E - en) (i - st) = i - st; omega)
  have ht1 : Blk w1 t 164 _ := h.blk.kept (ho1.block t h.blk.lt h.tg)
  have k0 : w1.cell? ⟨t, 0, none⟩ = some (.slice (some ⟨g, 0, none⟩) B.length cp) := by rw [hcp0]; exact ht1.cell (j := 0) rfl
  have k1 : w1.cell? ⟨t, 1, none⟩ = some (.int .i64 st) := ht1.cell (j := 1) rfl
  have k2 : w1.cell? ⟨t, 2, none⟩ = some (.int .i64 en) := ht1.cell (j := 2) rfl
  have f3 := ht1.fz 1
  have f4 := ht1.fz 2
  have HT1 := Lib.hid ht1
  rw [laidOver_app (by omega) (by omega)] at hb1
  have HB1 := Lib.hid hb1
  have HO1 := Lib.hid ho1
  have HZ1 := Lib.hid hz1
  have htg := h.tg
  have HTG := Lib.hid htg
  clear ht1 hb1 ho1 hz1 htg
  have hcp1 := fun ty ad az => hcp ty ad az (fun h0 => by omega)
  have e4 : st ≤ B.length := by omega
  have g1 : st ≤ cp := by omega
  have g2 : en ≤ cp := by omega
  have g3 : i ≤ cp := by omega
  have g4 : E ≤ cp := by omega
  have HE := Lib.hid (⟨hE, hG, q1, q2, q3, hi⟩ : _ ∧ _ ∧ _ ∧ _ ∧ _ ∧ _)
  
  clear h hE hG q1 q3 hi hcp hcp0
  obtain ⟨x1, hx1⟩ : ∃ x : Bool, (cp = st) = (x = true) := ⟨decide (cp = st), by simp⟩
  obtain ⟨x2, hx2⟩ : ∃ x : Bool, (cp = en) = (x = true) := ⟨decide (cp = en), by simp⟩
  cases x1 <;> cases x2
  all_goals
    simp only [Bool.false_eq_true, eq_self_iff_true] at hx1 hx2
    go_enter Tryz.func180, Tryz.ntmps180
    go_wp2_with fail
    go_region
    go_wp2_with fail
    go_region
    go_wp2_with fail
    go_end0
    have hfin := ((HT1.out.set (j := 1) (by simp) (.int .i64 i)).set (j := 2) (by simp) (.int .i64 E))
    have hon : Only (fun k => k = t ∨ k = g) w _ := (((((Only.refl (fun k => k = t ∨ k = g) w).drew.drew).trans (HO1.out.mono (T := fun k => k = t ∨ k = g) (fun k hk => .inr hk))).setCell (p := ⟨t, 1, none⟩) (.inl rfl) (.int .i64 i)).setCell (p := ⟨t, 2, none⟩) (.inl rfl) (.int .i64 E))
    obtain ⟨hE, hG, q1, q2, q3, hi⟩ := HE.out
    refine ⟨rfl, hon, ⟨Xt, ?_, ?_, HTG.out, ?_, by omega, ?_⟩, ?_⟩
    · rw [laidOver_len (by omega) (by omega)]; exact hfin
    · refine Blk.kept HB1.out ?_
      rw [Below.heap_setCell _ _ _ _ (fun e => HTG.out e.symm), Below.heap_setCell _ _ _ _ (fun e => HTG.out e.symm)]
    · rw [laidOver_len (by omega) (by omega)]; exact q3
    · rw [laidOver_len (by omega) (by omega)]; omega
    · simp [HZ1.out]
set_option maxHeartbeats 2000000 in
theorem gmove_hi {B : List Int} {st en i : Nat} {fv : Value} (h0 : GapW w t g B st en fv) (hi : st < i ∧ i + (en - st) ≤ B.length) :
    Calls Tryz.prog 180 #[.pointer (some ⟨t, 0, none⟩), .int .i64 i] w fun e w' => e = .returned (.tuple #[]) ∧ Only (fun k => k = t ∨ k = g) w w' ∧ GapW w' t g (laidOver B st B en (i - st)) i (i + (en - st)) fv ∧ w'.heap.size = w.heap.size := by
  obtain ⟨Xt, h⟩ := h0
  obtain ⟨cp, hcp0⟩ : ∃ c, c = B.length + Xt.length := ⟨_, rfl⟩
  have c0 : w.cell? ⟨t, 0, none⟩ = some (.slice (some ⟨g, 0, none⟩) B.length cp) := by rw [hcp0]; exact h.blk.cell (j := 0) rfl
  have c1 : w.cell? ⟨t, 1, none⟩ = some (.int .i64 st) := h.blk.cell (j := 1) rfl
  have c2 : w.cell? ⟨t, 2, none⟩ = some (.int .i64 en) := h.blk.cell (j := 2) rfl
  have f1 := h.blk.fz 1
  have f2 := h.blk.fz 2
  have q1 := h.h1
  have q2 := h.h2
  have q3 := h.lim
  obtain ⟨E, hE⟩ : ∃ E, E = i + (en - st) := ⟨_, rfl⟩
  rw [← hE]
  obtain ⟨G, hG⟩ : ∃ G, G = en - st := ⟨_, rfl⟩
  have s1 : IntKind.i64.wrap ((en : Int) - st) = (G : Int) := by rw [IntWalk.i64_in _ (by omega)]; omega
  have s2 : IntKind.i64.wrap ((i : Int) + (G : Int)) = (E : Int) := by rw [IntWalk.i64_in _ (by omega)]; omega
  have d1 : (i < st) = False := eq_false (by omega)
  have e1 : st ≤ i := by omega
  have e2 : (cp = en) = False := eq_false (by omega)
  have e3 : (cp = st) = False := eq_false (by omega)
  have e6 : i ≤ B.length := by omega
  have e7 : en ≤ E := by omega
  have e8 : E ≤ B.length := by omega
  obtain ⟨w1, hcp, ho1, hb1, hz1⟩ := copy_over (w := w.drew.drew) (gd := g) (gs := g) (o := st) (p := en) (n := i - st) (dl := i - st) (dc := cp - st) (sl := E - en) (sc := cp - en) h.buf h.buf (by simp; omega) (by simp; omega) (by show min (E - en) (i - st) = i - st; omega)
  have ht1 : Blk w1 t 164 _ := h.blk.kept (ho1.block t h.blk.lt h.tg)
  have k0 : w1.cell? ⟨t, 0, none⟩ = some (.slice (some ⟨g, 0, none⟩) B.length cp) := by rw [hcp0]; exact ht1.cell (j := 0) rfl
  have k1 : w1.cell? ⟨t, 1, none⟩ = some (.int .i64 st) := ht1.cell (j := 1) rfl
  have k2 : w1.cell? ⟨t, 2, none⟩ = some (.int .i64 en) := ht1.cell (j := 2) rfl
  have f3 := ht1.fz 1
  have f4 := ht1.fz 2
  have HT1 := Lib.hid ht1
  rw [laidOver_app (by omega) (by omega)] at hb1
  have HB1 := Lib.hid hb1
  have HO1 := Lib.hid ho1
  have HZ1 := Lib.hid hz1
  have htg := h.tg
  have HTG := Lib.hid htg
  clear ht1 hb1 ho1 hz1 htg
  have hcp1 := fun ty => hcp ty (some ⟨g, st, none⟩) (some ⟨g, en, none⟩) (fun _ => ⟨rfl, rfl⟩)
  have e4 : st ≤ B.length := by omega
  have g1 : st ≤ cp := by omega
  have g2 : en ≤ cp := by omega
  have g3 : i ≤ cp := by omega
  have g4 : E ≤ cp := by omega
  have HE := Lib.hid (⟨hE, hG, q1, q2, q3, hi⟩ : _ ∧ _ ∧ _ ∧ _ ∧ _ ∧ _)

  clear h hE hG q1 q3 hi hcp hcp0
  go_enter Tryz.func180, Tryz.ntmps180
  go_wp2_with fail
  go_region
  go_wp2_with fail
  go_region
  go_wp2_with fail
  go_end0
  have hfin := ((HT1.out.set (j := 1) (by simp) (.int .i64 i)).set (j := 2) (by simp) (.int .i64 E))
  have hon : Only (fun k => k = t ∨ k = g) w _ := (((((Only.refl (fun k => k = t ∨ k = g) w).drew.drew).trans (HO1.out.mono (T := fun k => k = t ∨ k = g) (fun k hk => .inr hk))).setCell (p := ⟨t, 1, none⟩) (.inl rfl) (.int .i64 i)).setCell (p := ⟨t, 2, none⟩) (.inl rfl) (.int .i64 E))
  obtain ⟨hE, hG, q1, q2, q3, hi⟩ := HE.out
  refine ⟨rfl, hon, ⟨Xt, ?_, ?_, HTG.out, ?_, by omega, ?_⟩, ?_⟩
  · rw [laidOver_len (by omega) (by omega)]; exact hfin
  · refine Blk.kept HB1.out ?_
    rw [Below.heap_setCell _ _ _ _ (fun e => HTG.out e.symm), Below.heap_setCell _ _ _ _ (fun e => HTG.out e.symm)]
  · rw [laidOver_len (by omega) (by omega)]; exact q3
  · rw [laidOver_len (by omega) (by omega)]; omega
  · simp [HZ1.out]
theorem gmove_ok {B : List Int} {st en i : Nat} {fv : Value} (h : GapW w t g B st en fv) (hi : i + (en - st) ≤ B.length) :
    Calls Tryz.prog 180 #[.pointer (some ⟨t, 0, none⟩), .int .i64 i] w fun e w' => e = .returned (.tuple #[]) ∧ Only (fun k => k = t ∨ k = g) w w' ∧ w'.heap.size = w.heap.size ∧
      ∃ B', GapW w' t g B' i (i + (en - st)) fv ∧ B'.length = B.length ∧ B'.take i ++ B'.drop (i + (en - st)) = B.take st ++ B.drop en := by
  have q1 := h.h1
  have q2 := h.h2
  rcases Nat.lt_trichotomy i st with h0 | h0 | h0
  · exact (gmove_lo h h0).mono fun e w' ⟨he, ho, hg, hz⟩ => ⟨he, ho, hz, _, hg, laidOver_len (by omega) (by omega), over_lo q1 q2 (by omega)⟩
  · exact (gmove_eq h h0).mono fun e w' ⟨he, ho, hg, hz⟩ => ⟨he, ho, hz, _, hg, laidOver_len (by omega) (by omega), over_hi q1 q2 (by omega) hi⟩
  · exact (gmove_hi h ⟨h0, hi⟩).mono fun e w' ⟨he, ho, hg, hz⟩ => ⟨he, ho, hz, _, hg, laidOver_len (by omega) (by omega), over_hi q1 q2 (by omega) hi⟩
end
end Go.Proofs.YtnbccoelbfgmgaaGreatDoor
/- package gap: grow, any text. -/
namespace Go.Proofs.YtnbccoelbfgmgaaGreatDoor
open Go.RowKit Go.Lib
set_option linter.unusedVariables false
set_option linter.unusedSimpArgs false
section
variable {w w' : World} {t g : Nat}
set_option maxHeartbeats 1000000 in
theorem ggrow_no {B : List Int} {st en n : Nat} {fv : Value} (h : GapW w t g B st en fv) (hn : n ≤ en - st) :
    Calls Tryz.prog 181 #[.pointer (some ⟨t, 0, none⟩), .int .i64 n] w fun e w' => e = .returned (.tuple #[]) ∧ Below w.heap.size w w' := by
  have c1 := h.c1
  have c2 := h.c2
  have q1 := h.h1
  have q2 := h.h2
  have q3 := h.lim
  obtain ⟨G, hG⟩ : ∃ G, G = en - st := ⟨_, rfl⟩
  have s1 : IntKind.i64.wrap ((en : Int) - st) = (G : Int) := by rw [IntWalk.i64_in _ (by omega)]; omega
  have d1 : (n ≤ G) = True := eq_true (by omega)
  clear h hG q1 q2 q3 hn
  go_enter Tryz.func181, Tryz.ntmps181
  go_wp2_with fail
  go_region
  go_wp2_with fail
  refine bodyPost_ret (results_none rfl _ _ _) rfl ?_
  exact ⟨rfl, (Below.refl _ _).drew⟩
/-- What grow turns. -/
def GrowP (t : Nat) (B : List Int) (st en n : Nat) (fv : Value) (w w' : World) : Prop := Only (fun k => k = t) w w' ∧ ∃ g' B' en', w.heap.size ≤ g' ∧ GapW w' t g' B' st en' fv ∧ n ≤ en' - st ∧ B'.take st = B.take st ∧ B'.drop en' = B.drop en
theorem laidOver_src {D B X : List Int} {o p n : Nat} (hp : p + n ≤ B.length) : laidOver D o (B ++ X) p n = laidOver D o B p n := by
  unfold laidOver
  rw [List.drop_append_of_le_length (by omega), List.take_append_of_le_length (by simp; omega)]
set_option maxRecDepth 100000 in
set_option maxHeartbeats 2000000 in
theorem ggrow_yes {B : List Int} {st en n : Nat} {fv : Value} (h0 : GapW w t g B st en fv) (hn : en - st < n) (hn2 : n ≤ 65536) (hsz : B.length - (en - st) + n ≤ 65536) :
    Calls Tryz.prog 181 #[.pointer (some ⟨t, 0, none⟩), .int .i64 n] w fun e w' => e = .returned (.tuple #[]) ∧ GrowP t B st en n fv w w' := by
  obtain ⟨Xt, h⟩ := h0
  obtain ⟨cp, hcp0⟩ : ∃ c, c = B.length + Xt.length := ⟨_, rfl⟩
  have c0 : w.cell? ⟨t, 0, none⟩ = some (.slice (some ⟨g, 0, none⟩) B.length cp) := by rw [hcp0]; exact h.blk.cell (j := 0) rfl
  have c1 : w.cell? ⟨t, 1, none⟩ = some (.int .i64 st) := h.blk.cell (j := 1) rfl
  have c2 : w.cell? ⟨t, 2, none⟩ = some (.int .i64 en) := h.blk.cell (j := 2) rfl
  have q1 := h.h1
  have q2 := h.h2
  have q3 := h.lim
  obtain ⟨L, hL⟩ : ∃ L, L = B.length := ⟨_, rfl⟩
  rw [← hL] at c0 hsz q2 q3
  obtain ⟨G, hG⟩ : ∃ G, G = en - st := ⟨_, rfl⟩
  obtain ⟨H2, hH2⟩ : ∃ H2, H2 = L / 2 := ⟨_, rfl⟩
  obtain ⟨M1, hM1⟩ : ∃ M1, M1 = n - G := ⟨_, rfl⟩
  obtain ⟨M2, hM2⟩ : ∃ M2, M2 = M1 + H2 := ⟨_, rfl⟩
  obtain ⟨M, hM⟩ : ∃ M, M = M2 + 16 := ⟨_, rfl⟩
  obtain ⟨T, hT⟩ : ∃ T, T = L + M := ⟨_, rfl⟩
  obtain ⟨E, hE⟩ : ∃ E, E = en + M := ⟨_, rfl⟩
  have s1 : IntKind.i64.wrap ((en : Int) - st) = (G : Int) := by rw [IntWalk.i64_in _ (by omega)]; omega
  have s2 : IntKind.i64.wrap ((n : Int) - G) = (M1 : Int) := by rw [IntWalk.i64_in _ (by omega)]; omega
  have s3 : IntKind.i64.wrap ((L : Int) / 2) = (H2 : Int) := by rw [IntWalk.i64_in _ (by omega)]; omega
  have s4 : IntKind.i64.wrap ((M1 : Int) + H2) = (M2 : Int) := by rw [IntWalk.i64_in _ (by omega)]; omega
  have s5 : IntKind.i64.wrap ((M2 : Int) + 16) = (M : Int) := by rw [IntWalk.i64_in _ (by omega)]; omega
  have s6 : IntKind.i64.wrap ((L : Int) + M) = (T : Int) := by rw [IntWalk.i64_in _ (by omega)]; omega
  have s7 : IntKind.i64.wrap ((en : Int) + M) = (E : Int) := by rw [IntWalk.i64_in _ (by omega)]; omega
  have d1 : (n ≤ G) = False := eq_false (by omega)
  have hmk : ∀ w : World, (Instr.makeSlice 162 (.int .i64 (T : Int)) (.int .i64 (T : Int))).run Tryz.prog w = .ok (.slice (some ⟨w.heap.size, 0, none⟩) T T) (w.alloc (.cells (rowR (List.replicate T 0)) 21)) := fun w => by
    obtain ⟨i, hi, hsz, hby, hz⟩ : ∃ i, Tryz.prog.info? 21 = some i ∧ i.size = 1 ∧ i.bytes = 4 ∧ i.zero = some (.int .i32 0) := ⟨(Tryz.prog.info? 21).get (by kernel_rfl), (Option.some_get _).symm, by kernel_rfl, by kernel_rfl, by kernel_rfl⟩
    have hr := run_makeSlice (P := Tryz.prog) (w := w) 162 21 i (.int .i32 0) Tryz.underlying162 hi hz .i64 .i64 (T : Int) (T : Int) (by omega) (by omega) (by rw [hsz]; omega) (by rw [hby]; omega) (by omega)
    rw [hr, hsz]
    have e2 : madeCells (Value.int .i32 0).cells (T * 1) = rowR (List.replicate T 0) := by
      rw [Nat.mul_one]
      apply Array.ext
      · simp [madeCells]
      · intro j h1 h2
        simp [madeCells, Value.cells, Nat.mod_one]
    rw [Int.toNat_natCast, e2]
  have b1 : st ≤ L := by omega
  have b3 : L ≤ cp := by omega
  have b4 : st ≤ cp := by omega
  have b5 : en ≤ cp := by omega
  have b2 : E ≤ T := by omega
  have ht := h.blk.lt
  have hg := h.buf.lt
  have hA := below1 w (.cells (rowR (List.replicate T 0)) 21)
  have hN : Blk (w.alloc (.cells (rowR (List.replicate T 0)) 21)) w.heap.size 21 (rowR (List.replicate T 0)) := Blk.made w _ _
  obtain ⟨w1, hcp, ho1, hn1, hz1⟩ := copy_over (w := (w.alloc (.cells (rowR (List.replicate T 0)) 21)).drew.drew) (gd := w.heap.size) (gs := g) (o := 0) (p := 0) (n := st) (dl := T) (dc := T) (sl := st) (sc := cp) (D := List.replicate T 0) (S := B ++ Xt) hN ((h.buf.up hA : Blk _ _ _ _) : Blk (w.alloc (.cells (rowR (List.replicate T 0)) 21)).drew.drew g 21 (rowR (B ++ Xt))) (by simp; omega) (by simp; omega) (by show min st T = st; omega)
  rw [laidOver_src (by omega)] at hn1
  have hcp1 := fun ty => hcp ty (some ⟨w.heap.size, 0, none⟩) (some ⟨g, 0, none⟩) (fun _ => ⟨rfl, rfl⟩)
  have hl1 : (laidOver (List.replicate T 0) 0 B 0 st).length = T := by rw [laidOver_len (by simp; omega) (by omega)]; simp
  have g1 : Blk w1 g 21 (rowR (B ++ Xt)) := (h.buf.up hA).kept (ho1.block g (by simp; omega) (by show ¬ g = w.heap.size; omega))
  have t1 : Blk w1 t 164 _ := (h.blk.up hA).kept (ho1.block t (by simp; omega) (by show ¬ t = w.heap.size; omega))
  obtain ⟨w2, hcp2, ho2, hn2', hz2⟩ := copy_over (w := w1.drew) (gd := w.heap.size) (gs := g) (o := E) (p := en) (n := L - en) (dl := T - E) (dc := T - E) (sl := L - en) (sc := cp - en) hn1 g1 (by omega) (by simp; omega) (by show min (L - en) (T - E) = L - en; omega)
  rw [laidOver_src (by omega)] at hn2'
  have t2 : Blk w2 t 164 _ := t1.kept (ho2.block t (by simp [hz1]; omega) (by show ¬ t = w.heap.size; omega))
  have hcp3 : ∀ ty, ((Builtin.copy_ #[162, 162] ty #[.slice (if T = E then some ⟨w.heap.size, 0, none⟩ else some ⟨w.heap.size, E, none⟩) (T - E) (T - E), .slice (if cp = en then some ⟨g, 0, none⟩ else some ⟨g, en, none⟩) (L - en) (cp - en)]).run Tryz.prog w1.drew = .ok (goInt ((L - en : Nat) : Int)) w2) := fun ty => hcp2 ty _ _ (fun h0 => ⟨if_neg (by omega), if_neg (by omega)⟩)
  have k0 : w1.cell? ⟨t, 0, none⟩ = some (.slice (some ⟨g, 0, none⟩) L cp) := by rw [hL, hcp0]; exact t1.cell (j := 0) rfl
  have k1 : w1.cell? ⟨t, 1, none⟩ = some (.int .i64 st) := t1.cell (j := 1) rfl
  have k2 : w1.cell? ⟨t, 2, none⟩ = some (.int .i64 en) := t1.cell (j := 2) rfl
  have m0 : w2.cell? ⟨t, 0, none⟩ = some (.slice (some ⟨g, 0, none⟩) L cp) := by rw [hL, hcp0]; exact t2.cell (j := 0) rfl
  have m1 : w2.cell? ⟨t, 1, none⟩ = some (.int .i64 st) := t2.cell (j := 1) rfl
  have m2 : w2.cell? ⟨t, 2, none⟩ = some (.int .i64 en) := t2.cell (j := 2) rfl
  have f0 := t2.fz 0
  have f2 := t2.fz 2
  have hfin := ((t2.set (j := 0) (by simp) (.slice (some ⟨w.heap.size, 0, none⟩) T T)).set (j := 2) (by simp) (.int .i64 E))
  have hon : Only (fun k => k = t) w ((w2.setCell ⟨t, 0, none⟩ (.slice (some ⟨w.heap.size, 0, none⟩) T T)).setCell ⟨t, 2, none⟩ (.int .i64 E)) :=
    (((((((Only.refl (fun k => k = t) w).alloc _).drew.drew).then ho1 (fun k hk hlt => by omega)).drew).then ho2 (fun k hk hlt => by omega)).setCell (p := ⟨t, 0, none⟩) rfl _).setCell (p := ⟨t, 2, none⟩) rfl _
  have hB2 : (laidOver (laidOver (List.replicate T 0) 0 B 0 st) E B en (L - en)).length = T := by rw [laidOver_len (by omega) (by omega)]; exact hl1
  have htk : (laidOver (laidOver (List.replicate T 0) 0 B 0 st) E B en (L - en)).take st = B.take st := by
    unfold laidOver
    have e1 : (B.take st).length = st := by simp; omega
    rw [List.append_assoc, List.take_append_of_le_length (by simp; omega), List.take_take, Nat.min_eq_left (by omega)]
    simp only [List.take_zero, List.nil_append, List.drop_zero]
    rw [List.take_append_of_le_length (by omega), List.take_take, Nat.min_self]
  have hdr : (laidOver (laidOver (List.replicate T 0) 0 B 0 st) E B en (L - en)).drop E = B.drop en := by
    have e0 : (laidOver (List.replicate T 0) 0 B 0 st).take E = (laidOver (List.replicate T 0) 0 B 0 st).take E := rfl
    generalize laidOver (List.replicate T 0) 0 B 0 st = D at *
    unfold laidOver
    have e1 : (D.take E).length = E := by simp; omega
    rw [List.append_assoc, List.drop_append, List.drop_eq_nil_of_le (by omega), List.nil_append, e1, Nat.sub_self, List.drop_zero, List.take_of_length_le (by simp; omega), show E + (L - en) = D.length by omega, List.drop_length, List.append_nil]
  have HF : Hid (GrowP t B st en n fv w ((w2.setCell ⟨t, 0, none⟩ (.slice (some ⟨w.heap.size, 0, none⟩) T T)).setCell ⟨t, 2, none⟩ (.int .i64 E))) := Lib.hid
    ⟨hon, w.heap.size, _, E, Nat.le_refl _, ⟨[], by rw [hB2]; exact hfin, by rw [List.append_nil]; exact hn2'.kept (by rw [Below.heap_setCell _ _ _ _ (fun e => by simp at e; omega), Below.heap_setCell _ _ _ _ (fun e => by simp at e; omega)]), by omega, by rw [hB2]; omega, by omega, by rw [hB2]; omega⟩, by omega, htk, hdr⟩
  have AA := Lib.hid (⟨hL, hG, hH2, hM1, hM2, hM, hT, hE, q1, q3, hn, hn2, hsz⟩ : _ ∧ _ ∧ _ ∧ _ ∧ _ ∧ _ ∧ _ ∧ _ ∧ _ ∧ _ ∧ _ ∧ _ ∧ _)
  have H := Lib.hid h
  clear hcp0 h hL hG hH2 hM1 hM2 hM hT hE q1 q3 hn hn2 hsz hA hN hcp hl1 g1 t1 hn1 ho1 hz1 ho2 hn2' hz2 t2 hcp2 hg hfin hon hB2 htk hdr
  go_enter Tryz.func181, Tryz.ntmps181
  go_wp2_with fail
  go_region
  go_wp2_with fail
  go_region
  go_wp2_with fail
  go_region
  go_wp2_with fail
  all_goals
    go_end0
    exact ⟨rfl, by first | exact HF.out | (have hTE : T = E := (by assumption); have q := HF.out; rw [hTE] at q; exact q)⟩
end
end Go.Proofs.YtnbccoelbfgmgaaGreatDoor
