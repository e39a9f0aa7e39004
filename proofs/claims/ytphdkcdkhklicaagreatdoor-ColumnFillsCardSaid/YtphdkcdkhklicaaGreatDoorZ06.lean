import Derived.Test.YtphdkcdkhklicaaGreatDoorZ04
import Derived.Test.YtphdkcdkhklicaaGreatDoorZ05
import Derived.Test.YtphdkcdkhklicaaGreatDoorZ01
import Derived.Laws.IdiomCopy
import Derived.BigRegion
import Derived.Test.YtphdkcdkhklicaaGreatDoorLayG
import Derived.Test.YtphdkcdkhklicaaGreatDoorZ03
/- slices.BinarySearch and slices.Insert at an empty list; how many characters a string has. -/
namespace Go.Proofs.YtphdkcdkhklicaaGreatDoor
open Go.RowKit
set_option linter.unusedVariables false
set_option linter.unusedSimpArgs false
theorem count_chars (s : ByteArray) : ∀ (n pos : Nat) (cs : List Nat), s.size - pos ≤ n → pos ≤ s.size → charsD (s.data.toList.drop pos) = some cs → Lib.runeCountFrom s n pos = cs.length
  | 0, pos, cs, h1, h2, h => by
    have e : pos = s.size := by omega
    have : s.data.toList.drop pos = [] := List.drop_eq_nil_of_le (by rw [e]; simp)
    rw [this, charsD_nil] at h
    cases h; rfl
  | n + 1, pos, cs, h1, h2, h => by
    unfold Lib.runeCountFrom
    by_cases hp : pos < s.size
    · rw [if_pos hp]
      obtain ⟨c, t, rfl, _, hd, hle, hr, _⟩ := decode_step hp h
      rw [count_chars s n _ t (by omega) hle hr]
      simp; omega
    · rw [if_neg hp]
      have : s.data.toList.drop pos = [] := List.drop_eq_nil_of_le (by simp; omega)
      rw [this, charsD_nil] at h
      cases h; rfl
theorem rlenG_chars {s : ByteArray} (h : (charsD s.data.toList).isSome = true) : rlenG s = (chrs s).length := by
  obtain ⟨cs, hc⟩ := Option.isSome_iff_exists.1 h
  unfold rlenG
  rw [vld_chars, h, if_pos rfl]
  unfold chrs Lib.runeCount
  rw [hc]
  exact count_chars s s.size 0 cs (by omega) (by omega) (by simpa using hc)
section
variable {w w' : World}
set_option maxHeartbeats 1000000 in
theorem bsearch_nil (x : Int) : Calls Tryz.prog 185 #[.slice none 0 0, .int .i64 x] w fun e w' => e = .returned (.tuple #[.int .i64 0, .bool false]) ∧ w = w' := by
  go_enter Tryz.func185, Tryz.ntmps185
  go_wp2_with fail
  go_loopw [7, 8] (fun va vb wr => va = .int .i64 0 ∧ vb = .int .i64 0 ∧ w = wr) (fun _ _ _ => 0)
  case atStart => exact ⟨rfl, rfl, rfl⟩
  case round =>
    obtain ⟨rfl, rfl, rfl⟩ := hrel
    go_wp2_with fail
    go_ret2
    exact ⟨rfl, rfl⟩
set_option maxHeartbeats 1000000 in
theorem sinsert_nil {B : Nat} {v : Value} {ys : List Int} (hB : B ≤ w.heap.size) (hv : ROwn encI 3 1 B w v ys) (hl : ys.length ≤ 1000000) : Calls Tryz.prog 186 #[.slice none 0 0, .int .i64 0, v] w fun e w' => ∃ v', e = .returned v' ∧ ROwn encI 3 1 B w' v' ys ∧ Below w.heap.size w w' := by
  obtain ⟨A, cap, rfl, h1, h2, h3⟩ := hv.shape eltI
  clear hv h1 h2
  by_cases h0 : ys.length = 0
  · obtain rfl : ys = [] := List.eq_nil_of_length_eq_zero h0
    clear h3 h0 hl
    simp only [List.length_nil]
    go_enter Tryz.func186, Tryz.ntmps186
    go_wp2_with fail
    go_ret
    exact ⟨_, rfl, ROwn.nil _ _, Below.refl _ w⟩
  · obtain ⟨v', w2, hrun, hown, hgr, hsz⟩ := append_run eltI (ROwn.nil (enc := encI) (E := 3) (k := 1) B w) hB h3 cap (by simp; omega) (by omega)
    rw [List.nil_append] at hown
    have d0 : ((ys.length : Int) == 0) = false := by simpa using h0
    have HR := Lib.hid hrun
    have hbel : Below w.heap.size w w2 := (Below.refl w.heap.size w).grown hgr (Nat.le_refl _) (fun k hk => by simp [Value.ownBlock] at hk)
    have HB := Lib.hid hbel
    have HO := Lib.hid hown
    clear hrun hgr hsz hbel hown h3 h0 hl hB
    generalize ys.length = L at *
    go_enter Tryz.func186, Tryz.ntmps186
    go_wp2_with (at_builtin; refine wpList_app_run rfl _ _ _ rfl rfl rfl HR.out ?_)
    go_ret
    exact ⟨_, rfl, HO.out, HB.out⟩
end
end Go.Proofs.YtphdkcdkhklicaaGreatDoor
/- package gap: move and grow, any text. -/
namespace Go.Proofs.YtphdkcdkhklicaaGreatDoor
open Go.RowKit Go.Lib
set_option linter.unusedVariables false
set_option linter.unusedSimpArgs false
section
variable {P : Program} {w : World}
/-- A list with values laid over it from o on. -/
def stL (cur : List Value) : Nat → List Value → List Value
  | _, [] => cur
  | o, v :: r => stL (cur.set o v) (o + 1) r
theorem stL_eq : ∀ (vs cur : List Value) (o : Nat), o + vs.length ≤ cur.length → stL cur o vs = cur.take o ++ vs ++ cur.drop (o + vs.length)
  | [], cur, o, h => by simp [stL]
  | v :: r, cur, o, h => by
    simp only [List.length_cons] at h
    rw [stL, stL_eq r (cur.set o v) (o + 1) (by simp; omega)]
    have h1 : (cur.set o v).take (o + 1) = cur.take o ++ [v] := by
      rw [List.take_succ_eq_append_getElem (by simp; omega), List.take_set_of_le (Nat.le_refl _)]; simp
    have h2 : (cur.set o v).drop (o + 1 + r.length) = cur.drop (o + 1 + r.length) := List.drop_set_of_lt (by omega)
    rw [h1, h2, List.length_cons, show o + (r.length + 1) = o + 1 + r.length by omega]
    simp
theorem stL_length : ∀ (vs cur : List Value) (o : Nat), (stL cur o vs).length = cur.length
  | [], cur, o => rfl
  | v :: r, cur, o => by rw [stL, stL_length r]; simp
theorem heap_setCells {g : Nat} {E : TypeId} : ∀ (vs : List Value) (o : Nat) (w : World) (cur : List Value), w.heap[g]? = some (.cells cur.toArray E (0, 0)) → (w.setCells g o vs).heap[g]? = some (.cells (stL cur o vs).toArray E (0, 0))
  | [], o, w, cur, h => h
  | v :: r, o, w, cur, h => by
    rw [World.setCells, stL]
    refine heap_setCells r (o + 1) _ _ ?_
    have := heap_setCell_same w g o _ _ v h
    simpa using this
theorem only_setCells {g : Nat} : ∀ (vs : List Value) (o : Nat) (w : World), Only (· = g) w (w.setCells g o vs)
  | [], o, w => Only.refl _ _
  | v :: r, o, w => ((Only.refl (· = g) w).setCell (p := ⟨g, o, none⟩) rfl v).trans (only_setCells r (o + 1) _)
theorem size_setCells {g : Nat} : ∀ (vs : List Value) (o : Nat) (w : World), (w.setCells g o vs).heap.size = w.heap.size
  | [], o, w => rfl
  | v :: r, o, w => by rw [World.setCells, size_setCells r (o + 1)]; simp
end
abbrev encR (z : Int) : Value := .int .i32 z
abbrev rowR (B : List Int) : Array Value := (B.map encR).toArray
theorem infoR : (Tryz.prog.info? 21).map (·.size) = some 1 := by kernel_rfl
/-- B with the part S[p:p+n] laid over it from o on. -/
def laidOver (B : List Int) (o : Nat) (S : List Int) (p n : Nat) : List Int := B.take o ++ (S.drop p).take n ++ B.drop (o + n)
theorem laidOver_len {B S : List Int} {o p n : Nat} (ho : o + n ≤ B.length) (hp : p + n ≤ S.length) : (laidOver B o S p n).length = B.length := by
  unfold laidOver
  simp only [List.length_append, List.length_take, List.length_drop]; omega
theorem laidOver_zero (B S : List Int) (o p : Nat) : laidOver B o S p 0 = B := by simp [laidOver]
theorem copy_over {w : World} {gd gs o p n dl dc sl sc : Nat} {D S : List Int} (hD : Blk w gd 21 (rowR D)) (hS : Blk w gs 21 (rowR S)) (ho : o + n ≤ D.length) (hp : p + n ≤ S.length) (hn : Nat.min sl dl = n) :
    ∃ w', (∀ ty ad az, (0 < n → ad = some ⟨gd, o, none⟩ ∧ az = some ⟨gs, p, none⟩) → (Builtin.copy_ #[123, 123] ty #[.slice ad dl dc, .slice az sl sc]).run Tryz.prog w = .ok (goInt n) w') ∧
      Only (· = gd) w w' ∧ Blk w' gd 21 (rowR (laidOver D o S p n)) ∧ w'.heap.size = w.heap.size := by
  rcases Nat.eq_zero_or_pos n with h0 | h0
  · subst h0
    refine ⟨w, fun ty ad az _ => ?_, Only.refl _ _, by rw [laidOver_zero]; exact hD, rfl⟩
    have := run_copy_none (P := Tryz.prog) w 123 123 ty 21 ad az dl dc sl sc Tryz.underlying123 infoR hn
    simpa using this
  · have hl : (((S.drop p).take n).map encR).length = n := by simp; omega
    refine ⟨w.setCells gd o (((S.drop p).take n).map encR), fun ty ad az h => ?_, only_setCells _ _ _, ?_, size_setCells _ _ _⟩
    · obtain ⟨rfl, rfl⟩ := h h0
      have := run_copy_cells (P := Tryz.prog) w 123 123 ty 21 gd o dl dc ⟨gs, p, none⟩ sl sc (((S.drop p).take n).map encR) Tryz.underlying123 infoR (by rw [hl, hn])
        (fun j v hj => by
          have hj2 : j < n := by have := List.getElem?_eq_some_iff.1 hj; obtain ⟨h1, _⟩ := this; omega
          rw [Addr.add_lit]
          refine hS.cell ?_
          rw [List.getElem?_map] at hj
          rw [List.getElem?_take_of_lt hj2, List.getElem?_drop] at hj
          simpa using hj)
        (fun j hj => by
          have : o + j < D.length := by rw [hl] at hj; omega
          rw [hD.cell (j := o + j) (v := encR D[o + j]) (by simp [this])]; rfl)
        (fun j hj => hD.fz _) (fun v hv => by obtain ⟨z, _, rfl⟩ := List.mem_map.1 hv; rfl)
      rw [hl] at this
      exact this
    · have := heap_setCells (((S.drop p).take n).map encR) o w (D.map encR) hD
      rw [stL_eq _ _ _ (by rw [hl]; simp; omega), hl] at this
      unfold Blk
      rw [this]
      unfold laidOver
      simp
section
variable {w w' : World} {t g : Nat}
/-- The text object at its whole memory. -/
structure GapW (w : World) (t g : Nat) (B : List Int) (st en : Nat) (fv : Value) : Prop where
  blk : Blk w t 125 (txtC g B.length B.length st en fv)
  buf : Blk w g 21 (rowR B)
  tg : t ≠ g
  lim : B.length ≤ 200000
  h1 : st ≤ en
  h2 : en ≤ B.length
theorem GapW.up {B : List Int} {st en : Nat} {fv : Value} (h : GapW w t g B st en fv) (hb : Below w.heap.size w w') : GapW w' t g B st en fv := ⟨h.blk.up hb, h.buf.up hb, h.tg, h.lim, h.h1, h.h2⟩
theorem GapW.only {S : Nat → Prop} {B : List Int} {st en : Nat} {fv : Value} (h : GapW w t g B st en fv) (ho : Only S w w') (h1 : ¬ S t) (h2 : ¬ S g) : GapW w' t g B st en fv := ⟨h.blk.only ho h1, h.buf.only ho h2, h.tg, h.lim, h.h1, h.h2⟩
theorem over_lo {B : List Int} {st en i : Nat} (h1 : st ≤ en) (h2 : en ≤ B.length) (hi : i ≤ st) :
    (laidOver B (i + (en - st)) B i (st - i)).take i ++ (laidOver B (i + (en - st)) B i (st - i)).drop (i + (en - st)) = B.take st ++ B.drop en := by
  unfold laidOver
  have e1 : (B.take (i + (en - st))).length = i + (en - st) := by simp; omega
  rw [List.append_assoc, List.take_append_of_le_length (by omega), List.take_take, Nat.min_eq_left (by omega)]
  rw [List.drop_append_of_le_length (by omega), show i + (en - st) + (st - i) = en by omega]
  rw [List.drop_eq_nil_of_le (by omega), List.nil_append, ← List.append_assoc]
  congr 1
  have := (List.take_append_drop i (B.take st))
  rw [List.take_take, Nat.min_eq_left hi, List.drop_take] at this
  exact this
theorem over_hi {B : List Int} {st en i : Nat} (h1 : st ≤ en) (h2 : en ≤ B.length) (hi : st ≤ i) (h3 : i + (en - st) ≤ B.length) :
    (laidOver B st B en (i - st)).take i ++ (laidOver B st B en (i - st)).drop (i + (en - st)) = B.take st ++ B.drop en := by
  unfold laidOver
  have e1 : (B.take st).length = st := by simp; omega
  have e2 : ((B.drop en).take (i - st)).length = i - st := by simp; omega
  have e3 : (B.take st ++ (B.drop en).take (i - st)).length = i := by rw [List.length_append, e1, e2]; omega
  rw [List.take_append_of_le_length (by omega), List.take_of_length_le (by omega)]
  have e4 : List.drop (i + (en - st)) (B.take st ++ (B.drop en).take (i - st) ++ B.drop (st + (i - st))) = B.drop (i + (en - st)) := by
    rw [List.drop_append, List.drop_eq_nil_of_le (by omega), List.nil_append, e3, List.drop_drop]; congr 1; omega
  rw [e4, List.append_assoc]
  congr 1
  have := List.take_append_drop (i - st) (B.drop en)
  rw [List.drop_drop, show en + (i - st) = i + (en - st) by omega] at this
  exact this
set_option maxHeartbeats 2000000 in
theorem gmove_lo {B : List Int} {st en i : Nat} {fv : Value} (h : GapW w t g B st en fv) (hi : i < st) :
    Calls Tryz.prog 183 #[.pointer (some ⟨t, 0, none⟩), .int .i64 i] w fun e w' => e = .returned (.tuple #[]) ∧ Only (fun k => k = t ∨ k = g) w w' ∧ GapW w' t g (laidOver B (i + (en - st)) B i (st - i)) i (i + (en - st)) fv ∧ w'.heap.size = w.heap.size := by
  have c0 : w.cell? ⟨t, 0, none⟩ = some (.slice (some ⟨g, 0, none⟩) B.length B.length) := h.blk.cell (j := 0) rfl
  have c1 : w.cell? ⟨t, 1, none⟩ = some (.int .i64 st) := h.blk.cell (j := 1) rfl
  have c2 : w.cell? ⟨t, 2, none⟩ = some (.int .i64 en) := h.blk.cell (j := 2) rfl
  have f1 := h.blk.fz 1
  have f2 := h.blk.fz 2
  have q1 := h.h1
  have q2 := h.h2
  have q3 := h.lim
  obtain ⟨E, hE⟩ : ∃ E, E = i + (en - st) := ⟨_, rfl⟩
  rw [← hE]
  obtain ⟨G, hG⟩ : ∃ G, G = en - st := ⟨_, rfl⟩
  have s1 : IntKind.i64.wrap ((en : Int) - st) = (G : Int) := by rw [IntWalk.i64_in _ (by omega)]; omega
  have s2 : IntKind.i64.wrap ((i : Int) + (G : Int)) = (E : Int) := by rw [IntWalk.i64_in _ (by omega)]; omega
  have d1 : (i < st) = True := eq_true hi
  have e1 : E ≤ en := by omega
  have e2 : (B.length = E) = False := eq_false (by omega)
  have e3 : (B.length = i) = False := eq_false (by omega)
  obtain ⟨w1, hcp, ho1, hb1, hz1⟩ := copy_over (w := w.drew.drew) (gd := g) (gs := g) (o := E) (p := i) (n := st - i) (dl := en - E) (dc := B.length - E) (sl := st - i) (sc := B.length - i) h.buf h.buf (by omega) (by omega) (by show min (st - i) (en - E) = st - i; omega)
  have ht1 : Blk w1 t 125 _ := h.blk.kept (ho1.block t h.blk.lt h.tg)
  have k0 : w1.cell? ⟨t, 0, none⟩ = some (.slice (some ⟨g, 0, none⟩) B.length B.length) := ht1.cell (j := 0) rfl
  have k1 : w1.cell? ⟨t, 1, none⟩ = some (.int .i64 st) := ht1.cell (j := 1) rfl
  have k2 : w1.cell? ⟨t, 2, none⟩ = some (.int .i64 en) := ht1.cell (j := 2) rfl
  have f3 := ht1.fz 1
  have f4 := ht1.fz 2
  have HT1 := Lib.hid ht1
  have HB1 := Lib.hid hb1
  have HO1 := Lib.hid ho1
  have HZ1 := Lib.hid hz1
  have htg := h.tg
  have HTG := Lib.hid htg
  clear ht1 hb1 ho1 hz1 htg
  have hcp1 := fun ty => hcp ty (some ⟨g, E, none⟩) (some ⟨g, i, none⟩) (fun _ => ⟨rfl, rfl⟩)
  have e4 : st ≤ B.length := by omega
  have HE := Lib.hid (⟨hE, hG, q1, q2, q3, hi⟩ : _ ∧ _ ∧ _ ∧ _ ∧ _ ∧ _)
  have e5 : i ≤ st := by omega
  clear h hE hG q1 q3 hi hcp
  go_enter Tryz.func183, Tryz.ntmps183
  go_wp2_with fail
  go_region
  go_wp2_with fail
  go_region
  go_wp2_with fail
  go_end0
  have hfin := ((HT1.out.set (j := 1) (by simp) (.int .i64 i)).set (j := 2) (by simp) (.int .i64 E))
  have hon : Only (fun k => k = t ∨ k = g) w _ := (((((Only.refl (fun k => k = t ∨ k = g) w).drew.drew).trans (HO1.out.mono (T := fun k => k = t ∨ k = g) (fun k hk => .inr hk))).setCell (p := ⟨t, 1, none⟩) (.inl rfl) (.int .i64 i)).setCell (p := ⟨t, 2, none⟩) (.inl rfl) (.int .i64 E))
  obtain ⟨hE, hG, q1, q2, q3, hi⟩ := HE.out
  refine ⟨rfl, hon, ⟨?_, ?_, HTG.out, ?_, by omega, ?_⟩, ?_⟩
  · rw [laidOver_len (by omega) (by omega)]; exact hfin
  · refine Blk.kept HB1.out ?_
    rw [Below.heap_setCell _ _ _ _ (fun e => HTG.out e.symm), Below.heap_setCell _ _ _ _ (fun e => HTG.out e.symm)]
  · rw [laidOver_len (by omega) (by omega)]; exact q3
  · rw [laidOver_len (by omega) (by omega)]; omega
  · simp [HZ1.out]
set_option maxHeartbeats 2000000 in
theorem gmove_eq {B : List Int} {st en i : Nat} {fv : Value} (h : GapW w t g B st en fv) (hi : i = st) :
    Calls Tryz.prog 183 #[.pointer (some ⟨t, 0, none⟩), .int .i64 i] w fun e w' => e = .returned (.tuple #[]) ∧ Only (fun k => k = t ∨ k = g) w w' ∧ GapW w' t g (laidOver B st B en (i - st)) i (i + (en - st)) fv ∧ w'.heap.size = w.heap.size := by
  have c0 : w.cell? ⟨t, 0, none⟩ = some (.slice (some ⟨g, 0, none⟩) B.length B.length) := h.blk.cell (j := 0) rfl
  have c1 : w.cell? ⟨t, 1, none⟩ = some (.int .i64 st) := h.blk.cell (j := 1) rfl
  have c2 : w.cell? ⟨t, 2, none⟩ = some (.int .i64 en) := h.blk.cell (j := 2) rfl
  have f1 := h.blk.fz 1
  have f2 := h.blk.fz 2
  have q1 := h.h1
  have q2 := h.h2
  have q3 := h.lim
  obtain ⟨E, hE⟩ : ∃ E, E = i + (en - st) := ⟨_, rfl⟩
  rw [← hE]
  obtain ⟨G, hG⟩ : ∃ G, G = en - st := ⟨_, rfl⟩
  have s1 : IntKind.i64.wrap ((en : Int) - st) = (G : Int) := by rw [IntWalk.i64_in _ (by omega)]; omega
  have s2 : IntKind.i64.wrap ((i : Int) + (G : Int)) = (E : Int) := by rw [IntWalk.i64_in _ (by omega)]; omega
  have d1 : (i < st) = False := eq_false (by omega)
  have e1 : st ≤ i := by omega
  have e6 : i ≤ B.length := by omega
  have e7 : en ≤ E := by omega
  have e8 : E ≤ B.length := by omega
  obtain ⟨w1, hcp, ho1, hb1, hz1⟩ := copy_over (w := w.drew.drew) (gd := g) (gs := g) (o := st) (p := en) (n := i - st) (dl := i - st) (dc := B.length - st) (sl := E - en) (sc := B.length - en) h.buf h.buf (by omega) (by omega) (by show min (E - en) (i - st) = i - st; omega)
  have ht1 : Blk w1 t 125 _ := h.blk.kept (ho1.block t h.blk.lt h.tg)
  have k0 : w1.cell? ⟨t, 0, none⟩ = some (.slice (some ⟨g, 0, none⟩) B.length B.length) := ht1.cell (j := 0) rfl
  have k1 : w1.cell? ⟨t, 1, none⟩ = some (.int .i64 st) := ht1.cell (j := 1) rfl
  have k2 : w1.cell? ⟨t, 2, none⟩ = some (.int .i64 en) := ht1.cell (j := 2) rfl
  have f3 := ht1.fz 1
  have f4 := ht1.fz 2
  have HT1 := Lib.hid ht1
  have HB1 := Lib.hid hb1
  have HO1 := Lib.hid ho1
  have HZ1 := Lib.hid hz1
  have htg := h.tg
  have HTG := Lib.hid htg
  clear ht1 hb1 ho1 hz1 htg
  have hcp1 := fun ty ad az => hcp ty ad az (fun h0 => by omega)
  have e4 : st ≤ B.length := by omega
  have HE := Lib.hid (⟨hE, hG, q1, q2, q3, hi⟩ : _ ∧ _ ∧ _ ∧ _ ∧ _ ∧ _)
  
  clear h hE hG q1 q3 hi hcp
  obtain ⟨x1, hx1⟩ : ∃ x : Bool, (B.length = st) = (x = true) := ⟨decide (B.length = st), by simp⟩
  obtain ⟨x2, hx2⟩ : ∃ x : Bool, (B.length = en) = (x = true) := ⟨decide (B.length = en), by simp⟩
  cases x1 <;> cases x2
  all_goals
    simp only [Bool.false_eq_true, eq_self_iff_true] at hx1 hx2
    go_enter Tryz.func183, Tryz.ntmps183
    go_wp2_with fail
    go_region
    go_wp2_with fail
    go_region
    go_wp2_with fail
    go_end0
    have hfin := ((HT1.out.set (j := 1) (by simp) (.int .i64 i)).set (j := 2) (by simp) (.int .i64 E))
    have hon : Only (fun k => k = t ∨ k = g) w _ := (((((Only.refl (fun k => k = t ∨ k = g) w).drew.drew).trans (HO1.out.mono (T := fun k => k = t ∨ k = g) (fun k hk => .inr hk))).setCell (p := ⟨t, 1, none⟩) (.inl rfl) (.int .i64 i)).setCell (p := ⟨t, 2, none⟩) (.inl rfl) (.int .i64 E))
    obtain ⟨hE, hG, q1, q2, q3, hi⟩ := HE.out
    refine ⟨rfl, hon, ⟨?_, ?_, HTG.out, ?_, by omega, ?_⟩, ?_⟩
    · rw [laidOver_len (by omega) (by omega)]; exact hfin
    · refine Blk.kept HB1.out ?_
      rw [Below.heap_setCell _ _ _ _ (fun e => HTG.out e.symm), Below.heap_setCell _ _ _ _ (fun e => HTG.out e.symm)]
    · rw [laidOver_len (by omega) (by omega)]; exact q3
    · rw [laidOver_len (by omega) (by omega)]; omega
    · simp [HZ1.out]
set_option maxHeartbeats 2000000 in
theorem gmove_hi {B : List Int} {st en i : Nat} {fv : Value} (h : GapW w t g B st en fv) (hi : st < i ∧ i + (en - st) ≤ B.length) :
    Calls Tryz.prog 183 #[.pointer (some ⟨t, 0, none⟩), .int .i64 i] w fun e w' => e = .returned (.tuple #[]) ∧ Only (fun k => k = t ∨ k = g) w w' ∧ GapW w' t g (laidOver B st B en (i - st)) i (i + (en - st)) fv ∧ w'.heap.size = w.heap.size := by
  have c0 : w.cell? ⟨t, 0, none⟩ = some (.slice (some ⟨g, 0, none⟩) B.length B.length) := h.blk.cell (j := 0) rfl
  have c1 : w.cell? ⟨t, 1, none⟩ = some (.int .i64 st) := h.blk.cell (j := 1) rfl
  have c2 : w.cell? ⟨t, 2, none⟩ = some (.int .i64 en) := h.blk.cell (j := 2) rfl
  have f1 := h.blk.fz 1
  have f2 := h.blk.fz 2
  have q1 := h.h1
  have q2 := h.h2
  have q3 := h.lim
  obtain ⟨E, hE⟩ : ∃ E, E = i + (en - st) := ⟨_, rfl⟩
  rw [← hE]
  obtain ⟨G, hG⟩ : ∃ G, G = en - st := ⟨_, rfl⟩
  have s1 : IntKind.i64.wrap ((en : Int) - st) = (G : Int) := by rw [IntWalk.i64_in _ (by omega)]; omega
  have s2 : IntKind.i64.wrap ((i : Int) + (G : Int)) = (E : Int) := by rw [IntWalk.i64_in _ (by omega)]; omega
  have d1 : (i < st) = False := eq_false (by omega)
  have e1 : st ≤ i := by omega
  have e2 : (B.length = en) = False := eq_false (by omega)
  have e3 : (B.length = st) = False := eq_false (by omega)
  have e6 : i ≤ B.length := by omega
  have e7 : en ≤ E := by omega
  have e8 : E ≤ B.length := by omega
  obtain ⟨w1, hcp, ho1, hb1, hz1⟩ := copy_over (w := w.drew.drew) (gd := g) (gs := g) (o := st) (p := en) (n := i - st) (dl := i - st) (dc := B.length - st) (sl := E - en) (sc := B.length - en) h.buf h.buf (by omega) (by omega) (by show min (E - en) (i - st) = i - st; omega)
  have ht1 : Blk w1 t 125 _ := h.blk.kept (ho1.block t h.blk.lt h.tg)
  have k0 : w1.cell? ⟨t, 0, none⟩ = some (.slice (some ⟨g, 0, none⟩) B.length B.length) := ht1.cell (j := 0) rfl
  have k1 : w1.cell? ⟨t, 1, none⟩ = some (.int .i64 st) := ht1.cell (j := 1) rfl
  have k2 : w1.cell? ⟨t, 2, none⟩ = some (.int .i64 en) := ht1.cell (j := 2) rfl
  have f3 := ht1.fz 1
  have f4 := ht1.fz 2
  have HT1 := Lib.hid ht1
  have HB1 := Lib.hid hb1
  have HO1 := Lib.hid ho1
  have HZ1 := Lib.hid hz1
  have htg := h.tg
  have HTG := Lib.hid htg
  clear ht1 hb1 ho1 hz1 htg
  have hcp1 := fun ty => hcp ty (some ⟨g, st, none⟩) (some ⟨g, en, none⟩) (fun _ => ⟨rfl, rfl⟩)
  have e4 : st ≤ B.length := by omega
  have HE := Lib.hid (⟨hE, hG, q1, q2, q3, hi⟩ : _ ∧ _ ∧ _ ∧ _ ∧ _ ∧ _)

  clear h hE hG q1 q3 hi hcp
  go_enter Tryz.func183, Tryz.ntmps183
  go_wp2_with fail
  go_region
  go_wp2_with fail
  go_region
  go_wp2_with fail
  go_end0
  have hfin := ((HT1.out.set (j := 1) (by simp) (.int .i64 i)).set (j := 2) (by simp) (.int .i64 E))
  have hon : Only (fun k => k = t ∨ k = g) w _ := (((((Only.refl (fun k => k = t ∨ k = g) w).drew.drew).trans (HO1.out.mono (T := fun k => k = t ∨ k = g) (fun k hk => .inr hk))).setCell (p := ⟨t, 1, none⟩) (.inl rfl) (.int .i64 i)).setCell (p := ⟨t, 2, none⟩) (.inl rfl) (.int .i64 E))
  obtain ⟨hE, hG, q1, q2, q3, hi⟩ := HE.out
  refine ⟨rfl, hon, ⟨?_, ?_, HTG.out, ?_, by omega, ?_⟩, ?_⟩
  · rw [laidOver_len (by omega) (by omega)]; exact hfin
  · refine Blk.kept HB1.out ?_
    rw [Below.heap_setCell _ _ _ _ (fun e => HTG.out e.symm), Below.heap_setCell _ _ _ _ (fun e => HTG.out e.symm)]
  · rw [laidOver_len (by omega) (by omega)]; exact q3
  · rw [laidOver_len (by omega) (by omega)]; omega
  · simp [HZ1.out]
theorem gmove_ok {B : List Int} {st en i : Nat} {fv : Value} (h : GapW w t g B st en fv) (hi : i + (en - st) ≤ B.length) :
    Calls Tryz.prog 183 #[.pointer (some ⟨t, 0, none⟩), .int .i64 i] w fun e w' => e = .returned (.tuple #[]) ∧ Only (fun k => k = t ∨ k = g) w w' ∧ w'.heap.size = w.heap.size ∧
      ∃ B', GapW w' t g B' i (i + (en - st)) fv ∧ B'.length = B.length ∧ B'.take i ++ B'.drop (i + (en - st)) = B.take st ++ B.drop en := by
  have q1 := h.h1
  have q2 := h.h2
  rcases Nat.lt_trichotomy i st with h0 | h0 | h0
  · exact (gmove_lo h h0).mono fun e w' ⟨he, ho, hg, hz⟩ => ⟨he, ho, hz, _, hg, laidOver_len (by omega) (by omega), over_lo q1 q2 (by omega)⟩
  · exact (gmove_eq h h0).mono fun e w' ⟨he, ho, hg, hz⟩ => ⟨he, ho, hz, _, hg, laidOver_len (by omega) (by omega), over_hi q1 q2 (by omega) hi⟩
  · exact (gmove_hi h ⟨h0, hi⟩).mono fun e w' ⟨he, ho, hg, hz⟩ => ⟨he, ho, hz, _, hg, laidOver_len (by omega) (by omega), over_hi q1 q2 (by omega) hi⟩
end
end Go.Proofs.YtphdkcdkhklicaaGreatDoor
/- package gap: grow, any text. -/
namespace Go.Proofs.YtphdkcdkhklicaaGreatDoor
open Go.RowKit Go.Lib
set_option linter.unusedVariables false
set_option linter.unusedSimpArgs false
section
variable {w w' : World} {t g : Nat}
set_option maxHeartbeats 1000000 in
theorem ggrow_no {B : List Int} {st en n : Nat} {fv : Value} (h : GapW w t g B st en fv) (hn : n ≤ en - st) :
    Calls Tryz.prog 184 #[.pointer (some ⟨t, 0, none⟩), .int .i64 n] w fun e w' => e = .returned (.tuple #[]) ∧ Below w.heap.size w w' := by
  have c0 : w.cell? ⟨t, 0, none⟩ = some (.slice (some ⟨g, 0, none⟩) B.length B.length) := h.blk.cell (j := 0) rfl
  have c1 : w.cell? ⟨t, 1, none⟩ = some (.int .i64 st) := h.blk.cell (j := 1) rfl
  have c2 : w.cell? ⟨t, 2, none⟩ = some (.int .i64 en) := h.blk.cell (j := 2) rfl
  have q1 := h.h1
  have q2 := h.h2
  have q3 := h.lim
  obtain ⟨G, hG⟩ : ∃ G, G = en - st := ⟨_, rfl⟩
  have s1 : IntKind.i64.wrap ((en : Int) - st) = (G : Int) := by rw [IntWalk.i64_in _ (by omega)]; omega
  have d1 : (n ≤ G) = True := eq_true (by omega)
  clear h hG q1 q2 q3 hn
  go_enter Tryz.func184, Tryz.ntmps184
  go_wp2_with fail
  go_region
  go_wp2_with fail
  refine bodyPost_ret (results_none rfl _ _ _) rfl ?_
  exact ⟨rfl, (Below.refl _ _).drew⟩
/-- What grow turns. -/
def GrowP (t : Nat) (B : List Int) (st en n : Nat) (fv : Value) (w w' : World) : Prop := Only (fun k => k = t) w w' ∧ ∃ g' B' en', w.heap.size ≤ g' ∧ GapW w' t g' B' st en' fv ∧ n ≤ en' - st ∧ B'.take st = B.take st ∧ B'.drop en' = B.drop en
set_option maxRecDepth 100000 in
set_option maxHeartbeats 2000000 in
theorem ggrow_yes {B : List Int} {st en n : Nat} {fv : Value} (h : GapW w t g B st en fv) (hn : en - st < n) (hn2 : n ≤ 65536) (hsz : B.length - (en - st) + n ≤ 65536) :
    Calls Tryz.prog 184 #[.pointer (some ⟨t, 0, none⟩), .int .i64 n] w fun e w' => e = .returned (.tuple #[]) ∧ GrowP t B st en n fv w w' := by
  have c0 : w.cell? ⟨t, 0, none⟩ = some (.slice (some ⟨g, 0, none⟩) B.length B.length) := h.blk.cell (j := 0) rfl
  have c1 : w.cell? ⟨t, 1, none⟩ = some (.int .i64 st) := h.blk.cell (j := 1) rfl
  have c2 : w.cell? ⟨t, 2, none⟩ = some (.int .i64 en) := h.blk.cell (j := 2) rfl
  have q1 := h.h1
  have q2 := h.h2
  have q3 := h.lim
  obtain ⟨L, hL⟩ : ∃ L, L = B.length := ⟨_, rfl⟩
  rw [← hL] at c0 hsz q2 q3
  obtain ⟨G, hG⟩ : ∃ G, G = en - st := ⟨_, rfl⟩
  obtain ⟨H2, hH2⟩ : ∃ H2, H2 = L / 2 := ⟨_, rfl⟩
  obtain ⟨M1, hM1⟩ : ∃ M1, M1 = n - G := ⟨_, rfl⟩
  obtain ⟨M2, hM2⟩ : ∃ M2, M2 = M1 + H2 := ⟨_, rfl⟩
  obtain ⟨M, hM⟩ : ∃ M, M = M2 + 16 := ⟨_, rfl⟩
  obtain ⟨T, hT⟩ : ∃ T, T = L + M := ⟨_, rfl⟩
  obtain ⟨E, hE⟩ : ∃ E, E = en + M := ⟨_, rfl⟩
  have s1 : IntKind.i64.wrap ((en : Int) - st) = (G : Int) := by rw [IntWalk.i64_in _ (by omega)]; omega
  have s2 : IntKind.i64.wrap ((n : Int) - G) = (M1 : Int) := by rw [IntWalk.i64_in _ (by omega)]; omega
  have s3 : IntKind.i64.wrap ((L : Int) / 2) = (H2 : Int) := by rw [IntWalk.i64_in _ (by omega)]; omega
  have s4 : IntKind.i64.wrap ((M1 : Int) + H2) = (M2 : Int) := by rw [IntWalk.i64_in _ (by omega)]; omega
  have s5 : IntKind.i64.wrap ((M2 : Int) + 16) = (M : Int) := by rw [IntWalk.i64_in _ (by omega)]; omega
  have s6 : IntKind.i64.wrap ((L : Int) + M) = (T : Int) := by rw [IntWalk.i64_in _ (by omega)]; omega
  have s7 : IntKind.i64.wrap ((en : Int) + M) = (E : Int) := by rw [IntWalk.i64_in _ (by omega)]; omega
  have d1 : (n ≤ G) = False := eq_false (by omega)
  have hmk : ∀ w : World, (Instr.makeSlice 123 (.int .i64 (T : Int)) (.int .i64 (T : Int))).run Tryz.prog w = .ok (.slice (some ⟨w.heap.size, 0, none⟩) T T) (w.alloc (.cells (rowR (List.replicate T 0)) 21)) := fun w => by
    obtain ⟨i, hi, hsz, hby, hz⟩ : ∃ i, Tryz.prog.info? 21 = some i ∧ i.size = 1 ∧ i.bytes = 4 ∧ i.zero = some (.int .i32 0) := ⟨(Tryz.prog.info? 21).get (by kernel_rfl), (Option.some_get _).symm, by kernel_rfl, by kernel_rfl, by kernel_rfl⟩
    have hr := run_makeSlice (P := Tryz.prog) (w := w) 123 21 i (.int .i32 0) Tryz.underlying123 hi hz .i64 .i64 (T : Int) (T : Int) (by omega) (by omega) (by rw [hsz]; omega) (by rw [hby]; omega) (by omega)
    rw [hr, hsz]
    have e2 : madeCells (Value.int .i32 0).cells (T * 1) = rowR (List.replicate T 0) := by
      rw [Nat.mul_one]
      apply Array.ext
      · simp [madeCells]
      · intro j h1 h2
        simp [madeCells, Value.cells, Nat.mod_one]
    rw [Int.toNat_natCast, e2]
  have b1 : st ≤ L := by omega
  have b2 : E ≤ T := by omega
  have ht := h.blk.lt
  have hg := h.buf.lt
  have hA := below1 w (.cells (rowR (List.replicate T 0)) 21)
  have hN : Blk (w.alloc (.cells (rowR (List.replicate T 0)) 21)) w.heap.size 21 (rowR (List.replicate T 0)) := Blk.made w _ _
  obtain ⟨w1, hcp, ho1, hn1, hz1⟩ := copy_over (w := (w.alloc (.cells (rowR (List.replicate T 0)) 21)).drew.drew) (gd := w.heap.size) (gs := g) (o := 0) (p := 0) (n := st) (dl := T) (dc := T) (sl := st) (sc := L) (D := List.replicate T 0) (S := B) hN ((h.buf.up hA : Blk _ _ _ _) : Blk (w.alloc (.cells (rowR (List.replicate T 0)) 21)).drew.drew g 21 (rowR B)) (by simp; omega) (by omega) (by show min st T = st; omega)
  have hcp1 := fun ty => hcp ty (some ⟨w.heap.size, 0, none⟩) (some ⟨g, 0, none⟩) (fun _ => ⟨rfl, rfl⟩)
  have hl1 : (laidOver (List.replicate T 0) 0 B 0 st).length = T := by rw [laidOver_len (by simp; omega) (by omega)]; simp
  have g1 : Blk w1 g 21 (rowR B) := (h.buf.up hA).kept (ho1.block g (by simp; omega) (by show ¬ g = w.heap.size; omega))
  have t1 : Blk w1 t 125 _ := (h.blk.up hA).kept (ho1.block t (by simp; omega) (by show ¬ t = w.heap.size; omega))
  obtain ⟨w2, hcp2, ho2, hn2', hz2⟩ := copy_over (w := w1.drew) (gd := w.heap.size) (gs := g) (o := E) (p := en) (n := L - en) (dl := T - E) (dc := T - E) (sl := L - en) (sc := L - en) hn1 g1 (by omega) (by omega) (by show min (L - en) (T - E) = L - en; omega)
  have t2 : Blk w2 t 125 _ := t1.kept (ho2.block t (by simp [hz1]; omega) (by show ¬ t = w.heap.size; omega))
  have hcp3 : ∀ ty, ((Builtin.copy_ #[123, 123] ty #[.slice (if T = E then some ⟨w.heap.size, 0, none⟩ else some ⟨w.heap.size, E, none⟩) (T - E) (T - E), .slice (if L = en then some ⟨g, 0, none⟩ else some ⟨g, en, none⟩) (L - en) (L - en)]).run Tryz.prog w1.drew = .ok (goInt ((L - en : Nat) : Int)) w2) := fun ty => hcp2 ty _ _ (fun h0 => ⟨if_neg (by omega), if_neg (by omega)⟩)
  have k0 : w1.cell? ⟨t, 0, none⟩ = some (.slice (some ⟨g, 0, none⟩) L L) := by rw [hL]; exact t1.cell (j := 0) rfl
  have k1 : w1.cell? ⟨t, 1, none⟩ = some (.int .i64 st) := t1.cell (j := 1) rfl
  have k2 : w1.cell? ⟨t, 2, none⟩ = some (.int .i64 en) := t1.cell (j := 2) rfl
  have m0 : w2.cell? ⟨t, 0, none⟩ = some (.slice (some ⟨g, 0, none⟩) L L) := by rw [hL]; exact t2.cell (j := 0) rfl
  have m1 : w2.cell? ⟨t, 1, none⟩ = some (.int .i64 st) := t2.cell (j := 1) rfl
  have m2 : w2.cell? ⟨t, 2, none⟩ = some (.int .i64 en) := t2.cell (j := 2) rfl
  have f0 := t2.fz 0
  have f2 := t2.fz 2
  have hfin := ((t2.set (j := 0) (by simp) (.slice (some ⟨w.heap.size, 0, none⟩) T T)).set (j := 2) (by simp) (.int .i64 E))
  have hon : Only (fun k => k = t) w ((w2.setCell ⟨t, 0, none⟩ (.slice (some ⟨w.heap.size, 0, none⟩) T T)).setCell ⟨t, 2, none⟩ (.int .i64 E)) :=
    (((((((Only.refl (fun k => k = t) w).alloc _).drew.drew).then ho1 (fun k hk hlt => by omega)).drew).then ho2 (fun k hk hlt => by omega)).setCell (p := ⟨t, 0, none⟩) rfl _).setCell (p := ⟨t, 2, none⟩) rfl _
  have hB2 : (laidOver (laidOver (List.replicate T 0) 0 B 0 st) E B en (L - en)).length = T := by rw [laidOver_len (by omega) (by omega)]; exact hl1
  have htk : (laidOver (laidOver (List.replicate T 0) 0 B 0 st) E B en (L - en)).take st = B.take st := by
    unfold laidOver
    have e1 : (B.take st).length = st := by simp; omega
    rw [List.append_assoc, List.take_append_of_le_length (by simp; omega), List.take_take, Nat.min_eq_left (by omega)]
    simp only [List.take_zero, List.nil_append, List.drop_zero]
    rw [List.take_append_of_le_length (by omega), List.take_take, Nat.min_self]
  have hdr : (laidOver (laidOver (List.replicate T 0) 0 B 0 st) E B en (L - en)).drop E = B.drop en := by
    have e0 : (laidOver (List.replicate T 0) 0 B 0 st).take E = (laidOver (List.replicate T 0) 0 B 0 st).take E := rfl
    generalize laidOver (List.replicate T 0) 0 B 0 st = D at *
    unfold laidOver
    have e1 : (D.take E).length = E := by simp; omega
    rw [List.append_assoc, List.drop_append, List.drop_eq_nil_of_le (by omega), List.nil_append, e1, Nat.sub_self, List.drop_zero, List.take_of_length_le (by simp; omega), show E + (L - en) = D.length by omega, List.drop_length, List.append_nil]
  have HF : Hid (GrowP t B st en n fv w ((w2.setCell ⟨t, 0, none⟩ (.slice (some ⟨w.heap.size, 0, none⟩) T T)).setCell ⟨t, 2, none⟩ (.int .i64 E))) := Lib.hid
    ⟨hon, w.heap.size, _, E, Nat.le_refl _, ⟨by rw [hB2]; exact hfin, hn2'.kept (by rw [Below.heap_setCell _ _ _ _ (fun e => by simp at e; omega), Below.heap_setCell _ _ _ _ (fun e => by simp at e; omega)]), by omega, by rw [hB2]; omega, by omega, by rw [hB2]; omega⟩, by omega, htk, hdr⟩
  have AA := Lib.hid (⟨hL, hG, hH2, hM1, hM2, hM, hT, hE, q1, q3, hn, hn2, hsz⟩ : _ ∧ _ ∧ _ ∧ _ ∧ _ ∧ _ ∧ _ ∧ _ ∧ _ ∧ _ ∧ _ ∧ _ ∧ _)
  have H := Lib.hid h
  clear h hL hG hH2 hM1 hM2 hM hT hE q1 q3 hn hn2 hsz hA hN hcp hl1 g1 t1 hn1 ho1 hz1 ho2 hn2' hz2 t2 hcp2 hg hfin hon hB2 htk hdr
  go_enter Tryz.func184, Tryz.ntmps184
  go_wp2_with fail
  go_region
  go_wp2_with fail
  go_region
  go_wp2_with fail
  go_region
  go_wp2_with fail
  all_goals
    go_end0
    exact ⟨rfl, by first | exact HF.out | (have hTE : T = E := (by assumption); have q := HF.out; rw [hTE] at q; exact q)⟩
end
end Go.Proofs.YtphdkcdkhklicaaGreatDoor
/- slices.Insert and slices.BinarySearch at ints, at rows that lie in blocks of their own. -/
namespace Go.Proofs.YtphdkcdkhklicaaGreatDoor
open Go.RowKit Go.Lib
set_option linter.unusedVariables false
set_option linter.unusedSimpArgs false
section
variable {w w' : World}
abbrev encZ (z : Int) : Value := .int .i64 z
theorem cellsZ (xs : List Int) : cellsL encI xs = xs.map encZ := by
  induction xs with
  | nil => rfl
  | cons x xs ih => rw [cellsL_cons, ih]; rfl
/-- A row of ints, opened. -/
theorem own_open {D : Nat} {v : Value} {xs : List Int} (h : ROwn encI 3 1 D w v xs) :
    (v = .slice none 0 0 ∧ xs = []) ∨ ∃ g cap cl, v = .slice (some ⟨g, 0, none⟩) xs.length cap ∧ D ≤ g ∧ w.heap[g]? = some (.cells (List.toArray cl) 3 (0, 0)) ∧ xs.length ≤ cap ∧ cap ≤ maxLen ∧ cl.length = cap ∧ cl.take xs.length = xs.map encZ := by
  obtain ⟨_, h⟩ := h
  rcases h with ⟨rfl, h0⟩ | ⟨g, cap, cur, rfl, hB, hb, hl, hm, hs, ht⟩
  · exact .inl ⟨rfl, List.eq_nil_of_length_eq_zero h0⟩
  · rw [cellsZ, Nat.mul_one] at ht
    exact .inr ⟨g, cap, cur.toList, rfl, hB, by simpa using hb, hl, hm, by simpa using hs, ht⟩
theorem own_mk {D g cap : Nat} {cl : List Value} {xs : List Int} (hB : D ≤ g) (hb : w.heap[g]? = some (.cells (List.toArray cl) 3 (0, 0))) (hl : xs.length ≤ cap) (hm : cap ≤ maxLen) (hs : cl.length = cap) (ht : cl.take xs.length = xs.map encZ) :
    ROwn encI 3 1 D w (.slice (some ⟨g, 0, none⟩) xs.length cap) xs :=
  ⟨by rw [cellsZ]; simp, .inr ⟨g, cap, _, rfl, hB, hb, hl, hm, by simpa using hs, by rw [cellsZ, Nat.mul_one]; exact ht⟩⟩
theorem cell_list {g : Nat} {E : TypeId} {cl : List Value} (hb : w.heap[g]? = some (.cells cl.toArray E (0, 0))) (j : Nat) : w.cell? ⟨g, j, none⟩ = cl[j]? := by simp [World.cell?, hb]
theorem froz_list {g : Nat} {E : TypeId} {cl : List Value} (hb : w.heap[g]? = some (.cells cl.toArray E (0, 0))) (j : Nat) : w.frozen? ⟨g, j, none⟩ = false := by simp [World.frozen?, hb]
theorem shape_list {g : Nat} {E : TypeId} {cl : List Value} (hb : w.heap[g]? = some (.cells cl.toArray E (0, 0))) : w.shape? g = some (E, cl.length) := by simp [World.shape?, hb]
theorem int_one (xs : List Int) : ∀ v ∈ xs.map encZ, v.oneCell' = true := fun v hv => by obtain ⟨z, _, rfl⟩ := List.mem_map.1 hv; rfl
theorem take_of_take {cl : List Value} {n i : Nat} {vs : List Value} (h : cl.take n = vs) (hi : i ≤ n) : cl.take i = vs.take i := by rw [← h, List.take_take, Nat.min_eq_left hi]
theorem get_of_take {cl : List Value} {n : Nat} {vs : List Value} (h : cl.take n = vs) {j : Nat} {v : Value} (hj : vs[j]? = some v) : cl[j]? = some v := by
  rw [← h, List.getElem?_take] at hj
  split at hj
  · exact hj
  · cases hj
set_option maxHeartbeats 1000000 in
theorem sinsert_none (v : Value) (A A' : Option Addr) (n c i c' : Nat) (hi : i ≤ n) (hn : n ≤ 1000000000) (hv : v = .slice A n c) :
    Calls Tryz.prog 186 #[v, .int .i64 i, .slice A' 0 c'] w fun e w' => e = .returned v ∧ w = w' := by
  subst hv
  go_enter Tryz.func186, Tryz.ntmps186
  go_wp2_with fail
  all_goals
    go_ret
    exact ⟨rfl, rfl⟩
/-- Handed back by Insert. -/
def InsP (w : World) (D : Nat) (v : Value) (zs : List Int) (e : Ending) (w' : World) : Prop :=
  ∃ v', e = .returned v' ∧ ROwn encI 3 1 D w' v' zs ∧ Only (fun k => v.ownBlock = some k) w w' ∧ ∀ k, v'.ownBlock = some k → v.ownBlock = some k ∨ w.heap.size ≤ k
theorem zeroC (n : Nat) : (Builtin.zeroCells (Value.int .i64 0).cells n).toList = List.replicate n (encZ 0) := by
  apply List.ext_getElem
  · simp [Builtin.zeroCells, Value.cells]
  · intro j h1 h2
    simp [Builtin.zeroCells, Value.cells, Nat.mod_one]
theorem get_len {l : List Value} {n : Nat} (hl : l.length = n) {j : Nat} (hj : j < n) : (l[j]?).isSome = true := by rw [List.getElem?_eq_getElem (by omega)]; rfl
set_option maxHeartbeats 1000000 in
theorem sinsert_own {D D' i : Nat} {v u : Value} {xs ys : List Int} (hv : ROwn encI 3 1 D w v xs) (hu : ROwn encI 3 1 D' w u ys) (hne : ∀ g, v.ownBlock = some g → u.ownBlock ≠ some g) (hi : i ≤ xs.length) (hl : xs.length + ys.length ≤ 1000000) (hD : D ≤ w.heap.size) :
    Calls Tryz.prog 186 #[v, .int .i64 i, u] w (InsP w D v (xs.take i ++ ys ++ xs.drop i)) := by
  rcases Nat.eq_zero_or_pos ys.length with h0 | h0
  · obtain rfl := List.eq_nil_of_length_eq_zero h0
    have hx : xs.take i ++ [] ++ xs.drop i = xs := by simp
    rw [hx]
    have : ∃ A' c', u = .slice A' 0 c' := by
      rcases own_open hu with ⟨rfl, _⟩ | ⟨vb, vc, ul, rfl, _⟩
      · exact ⟨_, _, rfl⟩
      · exact ⟨_, _, rfl⟩
    obtain ⟨A', c', rfl⟩ := this
    have hvs : ∃ A c, v = .slice A xs.length c := by
      rcases own_open hv with ⟨rfl, rfl⟩ | ⟨vb, vc, ul, rfl, _⟩
      · exact ⟨_, _, rfl⟩
      · exact ⟨_, _, rfl⟩
    obtain ⟨A, c, hv2⟩ := hvs
    exact (sinsert_none v A A' xs.length c i c' hi (by omega) hv2).mono fun e w' ⟨he, hw⟩ => ⟨v, he, hw ▸ hv, hw ▸ Only.refl _ _, fun k hk => .inl hk⟩
  · rcases own_open hu with ⟨rfl, rfl⟩ | ⟨vb, vc, ul, rfl, _, hub, hul, huc, hus, hut⟩
    · simp at h0
    have hvs : ∀ j x, (ys.map encZ)[j]? = some x → w.cell? ⟨vb, 0 + j, none⟩ = some x := fun j x hj => by rw [Nat.zero_add, cell_list hub]; exact get_of_take hut hj
    have grow : ∀ (base : Option Addr) (c : Nat), v = .slice base xs.length c → c < xs.length + ys.length → xs.length ≤ c → (base = none → xs.length = 0) → (∀ a, base = some a → ∀ j x, (xs.map encZ)[j]? = some x → w.cell? (a.add j) = some x) → i = xs.length →
        Calls Tryz.prog 186 #[v, .int .i64 i, .slice (some ⟨vb, 0, none⟩) ys.length vc] w (InsP w D v (xs.take i ++ ys ++ xs.drop i)) := fun base c hvv hc hnc hb1 hb2 hi2 => by
      subst hi2
      have hm : grownCap w (xs.length + ys.length) c 3 ≤ maxLen := grownCap_le_maxLen _ _ _ _ (by unfold maxLen; omega)
      have hge := grownCap_ge w (xs.length + ys.length) c 3
      rw [hvv]
      refine (Any2.slices_Insert_int_end_grow Tryz.laysInsert base xs.length c vb 0 ys.length vc (xs.map encZ) (ys.map encZ) w h0 hnc hc (by omega) (by simp) (by simp) hb1 hb2 hvs (int_one _)).mono ?_
      rintro e w' ⟨rfl, rfl⟩
      rw [List.take_of_length_le (Nat.le_refl _), List.drop_eq_nil_of_le (Nat.le_refl _), List.append_nil]
      have hlen : (xs ++ ys).length = xs.length + ys.length := by simp
      refine ⟨_, rfl, ?_, (Only.refl _ w).drew.alloc _, fun k hk => .inr (by simp [Value.ownBlock] at hk; omega)⟩
      have := own_mk (w := w.drew.alloc (.cells ((xs.map encZ ++ ys.map encZ).toArray ++ Builtin.zeroCells (Value.int .i64 0).cells (grownCap w (xs.length + ys.length) c 3 - (xs.length + ys.length))) 3)) (D := D) (g := w.heap.size) (cap := grownCap w (xs.length + ys.length) c 3)
        (cl := (xs ++ ys).map encZ ++ List.replicate (grownCap w (xs.length + ys.length) c 3 - (xs.length + ys.length)) (encZ 0)) (xs := xs ++ ys) hD
        (by
          have h1 := (MapKept.heap_alloc w.drew (.cells ((xs.map encZ ++ ys.map encZ).toArray ++ Builtin.zeroCells (Value.int .i64 0).cells (grownCap w (xs.length + ys.length) c 3 - (xs.length + ys.length))) 3)).1
          have e : ((xs ++ ys).map encZ ++ List.replicate (grownCap w (xs.length + ys.length) c 3 - (xs.length + ys.length)) (encZ 0)).toArray = (xs.map encZ ++ ys.map encZ).toArray ++ Builtin.zeroCells (Value.int .i64 0).cells (grownCap w (xs.length + ys.length) c 3 - (xs.length + ys.length)) := by
            rw [← zeroC]; simp
          rw [e]; exact h1)
        (by rw [hlen]; exact hge) hm (by simp; omega) (by rw [List.take_append_of_le_length (by simp), List.take_of_length_le (by simp)])
      rw [hlen] at this
      exact this
    rcases own_open hv with ⟨rfl, rfl⟩ | ⟨g, cap, cl, rfl, hDg, hgb, hgl, hgm, hgs, hgt⟩
    · exact grow none 0 rfl (by simpa using h0) (Nat.le_refl _) (fun _ => rfl) (fun a h => by cases h) (by simpa using hi)
    · have hcs : ∀ j x, (xs.map encZ)[j]? = some x → w.cell? ⟨g, 0 + j, none⟩ = some x := fun j x hj => by rw [Nat.zero_add, cell_list hgb]; exact get_of_take hgt hj
      have hvg : vb ≠ g := fun e => hne g rfl (by rw [← e]; rfl)
      unfold maxLen at hgm
      by_cases hroom : xs.length + ys.length ≤ cap
      · rcases Nat.lt_or_ge i xs.length with h1 | h1
        · refine (Any2.slices_Insert_int_shift Tryz.laysInsert g 0 xs.length cap i vb 0 ys.length vc (xs.map encZ) (ys.map encZ) w h1 h0 hroom (by omega) hvg (by simp) (by simp) hcs
            (fun j hj => by rw [Nat.zero_add, cell_list hgb]; exact get_len hgs (by omega)) (fun j _ => froz_list hgb _) hvs (int_one _) (int_one _) 3 3 ul.length cl.length (shape_list hub) (shape_list hgb) (by omega) (froz_list hub _) (froz_list hub _)).mono ?_
          rintro e w' ⟨rfl, rfl⟩
          have hA := heap_setCells ((xs.map encZ).drop i) (0 + (i + ys.length)) w.drew cl hgb
          have hB := heap_setCells (ys.map encZ) (0 + i) _ _ hA
          refine ⟨_, rfl, ?_, ((Only.refl _ w).drew.trans ((only_setCells _ _ _).mono (fun k hk => by rw [hk]; rfl))).trans ((only_setCells _ _ _).mono (fun k hk => by rw [hk]; rfl)), fun k hk => .inl hk⟩
          have hlen : (xs.take i ++ ys ++ xs.drop i).length = xs.length + ys.length := by simp; omega
          have := own_mk (D := D) (xs := xs.take i ++ ys ++ xs.drop i) (cap := cap) hDg hB (by omega) (by unfold maxLen; omega) (by rw [stL_length, stL_length]; exact hgs) (by
            rw [hlen, stL_eq _ _ _ (by rw [stL_length]; simp; omega), stL_eq _ _ _ (by simp; omega)]
            have t1 : cl.take i = (xs.map encZ).take i := take_of_take hgt (by omega)
            simp only [Nat.zero_add, List.length_map, List.length_drop]
            have e1 : (cl.take (i + ys.length) ++ (xs.map encZ).drop i ++ cl.drop (i + ys.length + (xs.length - i))).take i = (xs.map encZ).take i := by
              rw [List.append_assoc, List.take_append_of_le_length (by simp; omega), List.take_take, Nat.min_eq_left (by omega), t1]
            have e2 : (cl.take (i + ys.length) ++ (xs.map encZ).drop i ++ cl.drop (i + ys.length + (xs.length - i))).drop (i + ys.length) = (xs.map encZ).drop i ++ cl.drop (i + ys.length + (xs.length - i)) := by
              rw [List.append_assoc, List.drop_append, List.drop_eq_nil_of_le (by simp; omega), List.nil_append, List.length_take, Nat.min_eq_left (by omega), Nat.sub_self, List.drop_zero]
            rw [e1, e2, ← List.append_assoc, List.take_append_of_le_length (by simp; omega), List.take_of_length_le (by simp; omega)]
            simp [List.map_take, List.map_drop])
          rw [hlen] at this
          exact this
        · have hie : i = xs.length := by omega
          subst hie
          refine (Any2.slices_Insert_int_end_room Tryz.laysInsert g 0 xs.length cap vb 0 ys.length vc (ys.map encZ) w h0 hroom (by omega) (by simp) (fun j hj => by rw [Nat.zero_add, cell_list hgb]; exact get_len hgs (by omega)) (fun j _ => froz_list hgb _) hvs (int_one _)).mono ?_
          rintro e w' ⟨rfl, rfl⟩
          have hB := heap_setCells (ys.map encZ) (0 + xs.length) w cl hgb
          refine ⟨_, rfl, ?_, (only_setCells _ _ _).mono (fun k hk => by rw [hk]; rfl), fun k hk => .inl hk⟩
          rw [List.take_of_length_le (Nat.le_refl _), List.drop_eq_nil_of_le (Nat.le_refl _), List.append_nil]
          have hlen : (xs ++ ys).length = xs.length + ys.length := by simp
          have := own_mk (D := D) (xs := xs ++ ys) (cap := cap) hDg hB (by omega) (by unfold maxLen; omega) (by rw [stL_length]; exact hgs) (by
            rw [hlen, stL_eq _ _ _ (by simp; omega), Nat.zero_add, hgt, List.take_append_of_le_length (by simp), List.take_of_length_le (by simp)]; simp)
          rw [hlen] at this
          exact this
      · rcases Nat.lt_or_ge i xs.length with h1 | h1
        · refine (Any2.slices_Insert_int_grow Tryz.laysInsert g 0 xs.length cap i vb 0 ys.length vc (xs.map encZ) (ys.map encZ) w h1 h0 hgl (by omega) (by omega) (by simp) (by simp) hcs hvs (int_one _) (int_one _)).mono ?_
          rintro e w' ⟨rfl, rfl⟩
          have hm : grownCap w (xs.length + ys.length) cap 3 ≤ maxLen := grownCap_le_maxLen _ _ _ _ (by unfold maxLen; omega)
          have hge := grownCap_ge w (xs.length + ys.length) cap 3
          obtain ⟨GC, hGC⟩ : ∃ GC, GC = grownCap w (xs.length + ys.length) cap 3 := ⟨_, rfl⟩
          have hGC2 : grownCap w (xs.length + ys.length) cap (Tryz.laysInsert_ren.t 3) = GC := hGC.symm
          rw [hGC2]
          rw [← hGC] at hm hge
          have hlen : (xs.take i ++ ys ++ xs.drop i).length = xs.length + ys.length := by simp; omega
          have h1' := (MapKept.heap_alloc w (.cells (((xs.map encZ).take i).toArray ++ Builtin.zeroCells (Value.int .i64 0).cells (xs.length + ys.length - i) ++ Builtin.zeroCells (Value.int .i64 0).cells (GC - (xs.length + ys.length))) (Tryz.laysInsert_ren.t 3))).1
          have e : ((xs.map encZ).take i).toArray ++ Builtin.zeroCells (Value.int .i64 0).cells (xs.length + ys.length - i) ++ Builtin.zeroCells (Value.int .i64 0).cells (GC - (xs.length + ys.length)) = ((xs.map encZ).take i ++ List.replicate (GC - i) (encZ 0)).toArray := by
            apply Array.toList_inj.1
            simp only [Array.toList_append, zeroC]
            rw [List.append_assoc, List.replicate_append_replicate]
            congr 2; omega
          rw [e] at h1' ⊢
          have hA := heap_setCells (ys.map encZ) i _ _ (show (w.alloc (.cells ((xs.map encZ).take i ++ List.replicate (GC - i) (encZ 0)).toArray (Tryz.laysInsert_ren.t 3))).drew.heap[w.heap.size]? = some (.cells ((xs.map encZ).take i ++ List.replicate (GC - i) (encZ 0)).toArray 3 (0, 0)) from h1')
          have hB := heap_setCells ((xs.map encZ).drop i) (i + ys.length) (((w.alloc (.cells ((xs.map encZ).take i ++ List.replicate (GC - i) (encZ 0)).toArray (Tryz.laysInsert_ren.t 3))).drew.setCells w.heap.size i (ys.map encZ)).drew) _ hA
          refine ⟨_, rfl, ?_, ?_, fun k hk => .inr (by simp [Value.ownBlock] at hk; omega)⟩
          · have := own_mk (D := D) (xs := xs.take i ++ ys ++ xs.drop i) (cap := GC) hD hB (by omega) hm (by rw [stL_length, stL_length]; simp; omega) (by
              rw [hlen, stL_eq _ _ _ (by rw [stL_length]; simp; omega), stL_eq _ _ _ (by simp; omega)]
              have l1 : ((xs.map encZ).take i).length = i := by simp; omega
              have e1 : ((xs.map encZ).take i ++ List.replicate (GC - i) (encZ 0)).take i = (xs.map encZ).take i := by rw [List.take_append_of_le_length (by omega), List.take_of_length_le (by omega)]
              rw [e1]
              have l2 : ((xs.map encZ).take i ++ ys.map encZ).length = i + ys.length := by simp; omega
              have e2 : ∀ Z : List Value, ((xs.map encZ).take i ++ ys.map encZ ++ Z).take (i + ys.length) = (xs.map encZ).take i ++ ys.map encZ := fun Z => by
                rw [List.take_append_of_le_length (by omega), List.take_of_length_le (by omega)]
              rw [e2, List.take_append_of_le_length (by simp; omega), List.take_of_length_le (by simp; omega)]
              simp [List.map_take, List.map_drop])
            rw [hlen] at this
            exact this
          · exact (((((Only.refl _ w).alloc _).drew).then (only_setCells _ _ _) (fun k hk hlt => by omega)).drew).then (only_setCells _ _ _) (fun k hk hlt => by omega)
        · exact grow (some ⟨g, 0, none⟩) cap rfl (by omega) hgl (fun h => by cases h) (fun a h j x hj => by cases h; rw [Addr.add_lit]; exact hcs j x hj) (by omega)
theorem bsearch_own {D : Nat} {v : Value} {xs : List Int} (hv : ROwn encI 3 1 D w v xs) (hs : xs.Pairwise (· ≤ ·)) (hl : xs.length ≤ 1000000) (x : Int) :
    Calls Tryz.prog 185 #[v, .int .i64 x] w fun e w' => e = .returned (.tuple #[.int .i64 (xs.countP (· < x) : Nat), .bool (xs.contains x)]) ∧ Below w.heap.size w w' := by
  rcases own_open hv with ⟨rfl, rfl⟩ | ⟨g, cap, cl, rfl, hDg, hgb, hgl, hgm, hgs, hgt⟩
  · exact (bsearch_nil x).mono fun e w' ⟨he, hw⟩ => ⟨by rw [he]; rfl, hw ▸ Below.refl _ _⟩
  · have := Any.slices_BinarySearch_int Tryz.laysSearch g 0 xs.length cap xs x w (Nat.le_refl _) (by omega) (fun j hj => by
      rw [Nat.zero_add, cell_list hgb]; exact get_of_take hgt (by simp [List.getElem?_map, List.getElem?_eq_getElem hj, List.getD_eq_getElem?_getD])) (by rw [List.take_of_length_le (Nat.le_refl _)]; exact hs)
    rw [List.take_of_length_le (Nat.le_refl _)] at this
    refine this.mono ?_
    rintro e w' ⟨rfl, q, rfl⟩
    exact ⟨rfl, below_drewN (Below.refl _ _) _⟩
end
end Go.Proofs.YtphdkcdkhklicaaGreatDoor
/- The positions of line feeds: plain laws. -/
namespace Go.Proofs.YtphdkcdkhklicaaGreatDoor
set_option linter.unusedVariables false
set_option linter.unusedSimpArgs false
/-- The positions of line feeds, the first character being at k. -/
def feedsF : Nat → List Nat → List Int
  | _, [] => []
  | k, c :: cs => if c = 10 then (k : Int) :: feedsF (k + 1) cs else feedsF (k + 1) cs
def feeds (cs : List Nat) : List Int := feedsF 1 cs
theorem feedsF_append : ∀ (a b : List Nat) (k : Nat), feedsF k (a ++ b) = feedsF k a ++ feedsF (k + a.length) b
  | [], b, k => rfl
  | c :: a, b, k => by
    simp only [List.cons_append, feedsF, feedsF_append a b (k + 1), List.length_cons, show k + 1 + a.length = k + (a.length + 1) by omega]
    split <;> rfl
theorem feedsF_shift : ∀ (cs : List Nat) (k n : Nat), feedsF (k + n) cs = (feedsF k cs).map (fun z => z + (n : Int))
  | [], k, n => rfl
  | c :: cs, k, n => by
    simp only [feedsF, show k + n + 1 = (k + 1) + n by omega, feedsF_shift cs (k + 1) n]
    split
    · rw [List.map_cons]; simp
    · rfl
theorem feedsF_mem : ∀ (cs : List Nat) (k : Nat) (z : Int), z ∈ feedsF k cs → (k : Int) ≤ z ∧ z < (k : Int) + cs.length
  | [], k, z, h => by simp [feedsF] at h
  | c :: cs, k, z, h => by
    simp only [feedsF] at h
    rw [List.length_cons]
    split at h
    · rcases List.mem_cons.1 h with rfl | h
      · omega
      · have := feedsF_mem cs (k + 1) z h; omega
    · have := feedsF_mem cs (k + 1) z h; omega
theorem feedsF_sorted : ∀ (cs : List Nat) (k : Nat), (feedsF k cs).Pairwise (· < ·)
  | [], k => List.Pairwise.nil
  | c :: cs, k => by
    simp only [feedsF]
    split
    · exact List.pairwise_cons.2 ⟨fun z hz => by have := (feedsF_mem cs (k + 1) z hz).1; omega, feedsF_sorted cs (k + 1)⟩
    · exact feedsF_sorted cs (k + 1)
theorem feedsF_len : ∀ (cs : List Nat) (k : Nat), (feedsF k cs).length ≤ cs.length
  | [], k => Nat.le_refl _
  | c :: cs, k => by
    simp only [feedsF, List.length_cons]
    have := feedsF_len cs (k + 1)
    split
    · rw [List.length_cons]; omega
    · omega
/-- Where a position stands among the feeds. -/
theorem feeds_count (a b : List Nat) (at_ : Int) (h : at_ = a.length + 1) : (feeds (a ++ b)).countP (· < at_) = (feeds a).length := by
  unfold feeds
  rw [feedsF_append, List.countP_append, List.countP_eq_length.2, List.countP_eq_zero.2]
  · rfl
  · intro z hz
    have := feedsF_mem b (1 + a.length) z hz
    simp; omega
  · intro z hz
    have := feedsF_mem a 1 z hz
    simp; omega
theorem feeds_ins (a m b : List Nat) : feeds (a ++ m ++ b) = feeds a ++ feedsF (1 + a.length) m ++ (feedsF (1 + a.length) b).map (fun z => z + (m.length : Int)) := by
  unfold feeds
  rw [feedsF_append, feedsF_append, List.length_append, ← Nat.add_assoc, feedsF_shift b (1 + a.length) m.length]
theorem feeds_split (a b : List Nat) : feeds (a ++ b) = feeds a ++ feedsF (1 + a.length) b := feedsF_append a b 1
theorem feeds_del (a m b : List Nat) : feeds (a ++ b) = feeds a ++ (feedsF (1 + a.length + m.length) b).map (fun z => z - (m.length : Int)) := by
  rw [feeds_split, feedsF_shift b (1 + a.length) m.length, List.map_map]
  congr 1
  conv => lhs; rw [← List.map_id (feedsF (1 + a.length) b)]
  exact List.map_congr_left fun z _ => by simp [Function.comp]
theorem feedsF_snoc (cs : List Nat) (c k : Nat) : feedsF k (cs ++ [c]) = feedsF k cs ++ (if c = 10 then [((k + cs.length : Nat) : Int)] else []) := by
  rw [feedsF_append]
  simp only [feedsF]
end Go.Proofs.YtphdkcdkhklicaaGreatDoor
/- package gap: the whole of a text's memory; Insert, any text. -/
namespace Go.Proofs.YtphdkcdkhklicaaGreatDoor
open Go.RowKit Go.Lib
set_option linter.unusedVariables false
set_option linter.unusedSimpArgs false
/-- The blocks of a text. -/
def gapFoot (t g : Nat) (fv : Value) (k : Nat) : Prop := k = t ∨ k = g ∨ fv.ownBlock = some k
structure GapX (w : World) (t g : Nat) (fv : Value) (B : List Int) (st en : Nat) (cs : List Nat) : Prop where
  gw : GapW w t g B st en fv
  own : ROwn encI 3 1 0 w fv (feeds cs)
  nf : ∀ k, fv.ownBlock = some k → k ≠ t ∧ k ≠ g
  txt : B.take st ++ B.drop en = cs.map Int.ofNat
  cn : ∀ c ∈ cs, isN c
  le : cs.length ≤ 65536
section
variable {w w' : World} {t g st en : Nat} {fv : Value} {B : List Int} {cs : List Nat}
theorem GapX.r (h : GapX w t g fv B st en cs) : GapR w t g cs :=
  ⟨B, B.length, st, en, ⟨h.gw.blk.cell (j := 0) rfl, h.gw.blk.cell (j := 1) rfl, h.gw.blk.cell (j := 2) rfl, Nat.le_refl _, by have := h.gw.lim; omega, h.gw.buf.lt, fun i z hz => h.gw.buf.cell (by simp [hz]), h.gw.h1, h.gw.h2, h.txt, fun c hc => h.cn c hc⟩⟩
theorem GapX.foot_lt (h : GapX w t g fv B st en cs) {k : Nat} (hk : gapFoot t g fv k) : k < w.heap.size := by
  rcases hk with rfl | rfl | hk
  · exact h.gw.blk.lt
  · exact h.gw.buf.lt
  · exact h.own.lt hk
theorem GapX.only {S : Nat → Prop} (h : GapX w t g fv B st en cs) (ho : Only S w w') (hd : ∀ k, gapFoot t g fv k → ¬ S k) : GapX w' t g fv B st en cs :=
  ⟨h.gw.only ho (hd t (.inl rfl)) (hd g (.inr (.inl rfl))), h.own.kept (fun k hk => ho.block k (h.own.lt hk) (hd k (.inr (.inr hk)))), h.nf, h.txt, h.cn, h.le⟩
theorem GapX.up (h : GapX w t g fv B st en cs) (hb : Below w.heap.size w w') : GapX w' t g fv B st en cs := ⟨h.gw.up hb, h.own.up hb, h.nf, h.txt, h.cn, h.le⟩
theorem GapX.len (h : GapX w t g fv B st en cs) : cs.length + (en - st) = B.length := by
  have e := congrArg List.length h.txt
  have := h.gw.h1; have := h.gw.h2
  simp only [List.length_append, List.length_take, List.length_drop, List.length_map] at e
  omega
theorem ggrow_any {n : Nat} (h : GapW w t g B st en fv) (hn2 : n ≤ 65536) (hsz : B.length - (en - st) + n ≤ 65536) :
    Calls Tryz.prog 184 #[.pointer (some ⟨t, 0, none⟩), .int .i64 n] w fun e w' => e = .returned (.tuple #[]) ∧ Only (fun k => k = t) w w' ∧ ∃ g' B' en', (g' = g ∨ w.heap.size ≤ g') ∧ GapW w' t g' B' st en' fv ∧ n ≤ en' - st ∧ B'.take st = B.take st ∧ B'.drop en' = B.drop en := by
  by_cases hn : n ≤ en - st
  · exact (ggrow_no h hn).mono fun e w' ⟨he, hb⟩ => ⟨he, Only.of_below hb, g, B, en, .inl rfl, h.up hb, hn, rfl, rfl⟩
  · refine (ggrow_yes h (by omega) hn2 hsz).mono ?_
    rintro e w' ⟨he, ho, g', B', en', h1, h2, h3, h4, h5⟩
    exact ⟨he, ho, g', B', en', .inr h1, h2, h3, h4, h5⟩
end
/-- A text with m put in at p. -/
def insC (cs : List Nat) (p : Nat) (m : List Nat) : List Nat := cs.take (p - 1) ++ m ++ cs.drop (p - 1)
/-- What an edit of a text turns. -/
def GapTo (w : World) (t g : Nat) (fv : Value) (cs : List Nat) (w' : World) : Prop :=
  Only (gapFoot t g fv) w w' ∧ ∃ g' fv' B' st' en', GapX w' t g' fv' B' st' en' cs ∧ ∀ k, gapFoot t g' fv' k → gapFoot t g fv k ∨ w.heap.size ≤ k
/-- The first feeds moved: those from i on up to j, by n. -/
def bump (xs : List Int) (i j : Nat) (n : Int) : List Int := xs.take i ++ ((xs.drop i).take (j - i)).map (fun z => z + n) ++ xs.drop j
theorem bump_start (xs : List Int) (i : Nat) (n : Int) : bump xs i i n = xs := by simp [bump]
theorem bump_len {xs : List Int} {i j : Nat} (n : Int) (h1 : i ≤ j) (h2 : j ≤ xs.length) : (bump xs i j n).length = xs.length := by
  simp only [bump, List.length_append, List.length_map, List.length_take, List.length_drop]; omega
theorem bump_get {xs : List Int} {i j : Nat} (n : Int) (h1 : i ≤ j) (h2 : j < xs.length) : (bump xs i j n)[j]? = some xs[j] := by
  unfold bump
  rw [List.getElem?_append_right (by simp; omega)]
  have e : (xs.take i ++ ((xs.drop i).take (j - i)).map (fun z => z + n)).length = j := by simp; omega
  rw [e, Nat.sub_self, List.getElem?_drop]; simp [h2]
theorem bump_step {xs : List Int} {i j : Nat} (n : Int) (h1 : i ≤ j) (h2 : j < xs.length) : (bump xs i j n).set j (xs[j] + n) = bump xs i (j + 1) n := by
  unfold bump
  have e : (xs.take i ++ ((xs.drop i).take (j - i)).map (fun z => z + n)).length = j := by simp; omega
  rw [List.set_append_right _ _ (by omega), e, Nat.sub_self]
  have e2 : xs.drop j = xs[j] :: xs.drop (j + 1) := List.drop_eq_getElem_cons h2
  rw [e2, List.set_cons_zero]
  have e3 : (xs.drop i).take (j + 1 - i) = (xs.drop i).take (j - i) ++ [xs[j]] := by
    rw [show j + 1 - i = (j - i) + 1 by omega, List.take_succ_eq_append_getElem (by simp; omega)]
    congr 2; simp; congr 1; omega
  rw [e3, List.map_append, List.append_assoc, List.append_assoc, List.append_assoc]
  simp
theorem bump_end {xs : List Int} {i : Nat} (n : Int) : bump xs i xs.length n = xs.take i ++ (xs.drop i).map (fun z => z + n) := by
  unfold bump
  have e : (xs.drop i).take (xs.length - i) = xs.drop i := List.take_of_length_le (by simp)
  rw [e, List.drop_length]; simp
end Go.Proofs.YtphdkcdkhklicaaGreatDoor
