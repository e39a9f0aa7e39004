import Derived.Test.YtklaeecegkpgmaaGreatDoorJl
import Derived.Test.YtklaeecegkpgmaaGreatDoorJd
/- What an insertion does to no marks, no properties, no overlays. -/
namespace Go.Proofs.YtklaeecegkpgmaaGreatDoor
open Go.RowKit
set_option linter.unusedVariables false
set_option linter.unusedSimpArgs false
section
variable {w w' : World} {p m o mm : Nat}
/-! ### properties -/
abbrev prC : Array Value := #[.slice none 0 0, .bool true]
set_option maxHeartbeats 1000000 in
theorem pnone0 (h : Blk w p 181 prC) : Calls Tryz.prog 164 #[pAt p] w fun e w' => e = .returned (.bool false) ∧ w = w' := by
  have c1 := h.cell (j := 1) rfl
  clear h
  go_enter Tryz.func164, Tryz.ntmps164
  go_wp2_with fail
  go_ret
  exact ⟨rfl, rfl⟩
set_option maxHeartbeats 1000000 in
theorem pbsf0 (at_ : Int) (F : FuncId) (w : World) : Calls Tryz.prog 233 #[.slice none 0 0, .int .i64 at_, .func (.func F) #[] #[]] w fun e w' => e = .returned (.tuple #[.int .i64 0, .bool false]) ∧ w = w' := by
  go_enter Tryz.func233, Tryz.ntmps233
  go_wp2_with fail
  go_loopw [9, 10] (fun va vb wr => va = .int .i64 0 ∧ vb = .int .i64 0 ∧ w = wr) (fun _ _ _ => 0)
  case atStart => exact ⟨rfl, rfl, rfl⟩
  case round =>
    obtain ⟨rfl, rfl, rfl⟩ := hrel
    go_wp2_with fail
    go_ret2
    exact ⟨rfl, rfl⟩
set_option maxHeartbeats 1000000 in
theorem pfirst0 (at_ : Int) (w : World) : Calls Tryz.prog 209 #[.slice none 0 0, .int .i64 at_] w fun e w' => e = .returned (.int .i64 0) ∧ w = w' := by
  have HB := Lib.hid (pbsf0 at_ 234 w)
  go_enter Tryz.func209, Tryz.ntmps209
  go_wp2_with fail
  refine HB.out.mono ?_
  rintro e w' ⟨rfl, rfl⟩
  go_wp2_with fail
  go_ret
  exact ⟨rfl, rfl⟩
set_option maxHeartbeats 1000000 in
theorem plist0 (at_ : Int) (h : Blk w p 181 prC) : Calls Tryz.prog 191 #[pAt p, .int .i64 at_] w fun e w' => e = .returned (.slice none 0 0) ∧ w = w' := by
  have HN := Lib.hid (pnone0 h)
  have HF := Lib.hid (pfirst0 at_ w)
  have c0 := h.cell (j := 0) rfl
  clear h
  go_enter Tryz.func191, Tryz.ntmps191
  go_wp2_with fail
  refine HN.out.mono ?_
  rintro e w' ⟨rfl, rfl⟩
  go_wp2_with fail
  refine HF.out.mono ?_
  rintro e w' ⟨rfl, rfl⟩
  go_wp2_with fail
  go_ret
  exact ⟨rfl, rfl⟩
set_option maxHeartbeats 1000000 in
theorem pget0 (name : Int) (w : World) : Calls Tryz.prog 190 #[.slice none 0 0, .int .i64 name] w fun e w' => e = .returned (.tuple #[.agg #[.int .i64 0, .int .i64 0], .bool false]) ∧ Below w.heap.size w w' := by
  have hb := below1 w (.cells #[.int .i64 0, .int .i64 0] 154)
  have HB := Lib.hid hb
  clear hb
  have hk := Blk.made w 154 #[.int .i64 0, .int .i64 0]
  have k0 := hk.cell (j := 0) rfl
  have k1 := hk.cell (j := 1) rfl
  have f0 := hk.fz 0
  have f1 := hk.fz 1
  clear hk
  go_enter Tryz.func190, Tryz.ntmps190
  go_wp2_with fail
  go_loopw [10] (fun va wr => va = .int .i64 0 ∧ wr = w.alloc (.cells #[.int .i64 0, .int .i64 0] 154)) (fun _ _ => 0)
  case atStart => exact ⟨rfl, rfl⟩
  case round =>
    obtain ⟨rfl, rfl⟩ := hrel
    go_wp2_with fail
    refine bodyPost_ret (v := .tuple #[.agg #[.int .i64 0, .int .i64 0], .bool false]) (by simp [results, Tryz.f190, go_sem, k0, k1]) rfl ?_
    exact ⟨rfl, HB.out⟩
set_option maxHeartbeats 1000000 in
theorem pGet0 (at_ name : Int) (h : Blk w p 181 prC) : Calls Tryz.prog 147 #[pAt p, .int .i64 at_, .int .i64 name] w fun e w' => e = .returned (.tuple #[.agg #[.int .i64 0, .int .i64 0], .bool false]) ∧ Below w.heap.size w w' := by
  have hb := below1 w (.cells #[.int .i64 0, .int .i64 0] 154)
  have H := Lib.hid (h.up hb)
  have hk := Blk.made w 154 #[.int .i64 0, .int .i64 0]
  have HB := Lib.hid hb
  have HK := Lib.hid hk
  clear hb h hk
  go_enter Tryz.func147, Tryz.ntmps147
  go_wp2_with fail
  generalize w.alloc (.cells #[.int .i64 0, .int .i64 0] 154) = W at *
  refine (plist0 at_ H.out).mono ?_
  rintro e w' ⟨rfl, rfl⟩
  go_wp2_with fail
  refine (pget0 name W).mono ?_
  rintro e w1 ⟨rfl, hb1⟩
  have hk1 := HK.out.up hb1
  have k0 := hk1.cell (j := 0) rfl
  have k1 := hk1.cell (j := 1) rfl
  have f0 := hk1.fz 0
  have f1 := hk1.fz 1
  go_wp2_with fail
  have hk2 := (hk1.set (j := 0) (by simp) (.int .i64 0)).set (j := 1) (by simp) (.int .i64 0)
  have k0 := hk2.cell (j := 0) rfl
  have k1 := hk2.cell (j := 1) rfl
  refine bodyPost_ret (v := .tuple #[.agg #[.int .i64 0, .int .i64 0], .bool false]) (by simp [results, Tryz.f147, go_sem, k0, k1]) rfl ?_
  exact ⟨rfl, ((HB.out.trans (hb1.mono HB.out.size)).setCell (p := ⟨w.heap.size, 0, none⟩) (Nat.le_refl _) _).setCell (p := ⟨w.heap.size, 1, none⟩) (Nat.le_refl _) _⟩
theorem getAt0 (h : Blk w p 181 prC) : GetAt w p (fun _ _ => none) := fun a n w1 hb => pGet0 a n (h.up hb)
set_option maxHeartbeats 1000000 in
theorem pins0 (a n : Int) (h1 : 1 ≤ a) (h2 : a ≤ 65537) (h3 : 0 ≤ n) (h4 : n ≤ 65536) (h : Blk w p 181 prC) : Calls Tryz.prog 126 #[pAt p, .int .i64 a, .int .i64 n] w fun e w' => e = .returned (.int .i64 0) ∧ Only (fun k => k = p) w w' ∧ Blk w' p 181 prC := by
  have d1 : decide (a < 1) = false := decide_eq_false (by omega)
  have d2 : decide ((65537 : Int) < a) = false := decide_eq_false (by omega)
  have d3 : decide (n < 0) = false := decide_eq_false (by omega)
  have d4 : decide ((65536 : Int) < n) = false := decide_eq_false (by omega)
  have HN := Lib.hid (pnone0 h)
  have c0 := h.cell (j := 0) rfl
  have f0 := h.fz 0
  have H := Lib.hid h
  clear h h1 h2 h3 h4
  go_enter Tryz.func126, Tryz.ntmps126
  go_wp2_with fail
  refine HN.out.mono ?_
  rintro e w' ⟨rfl, rfl⟩
  go_wp2_with fail
  go_loopw [8, 68] (fun va vb wr => va = .slice none 0 0 ∧ vb = .int .i64 0 ∧ w = wr) (fun _ _ _ => 0)
  case atStart => exact ⟨rfl, rfl, rfl⟩
  case round =>
    obtain ⟨rfl, rfl, rfl⟩ := hrel
    go_wp2_with fail
    go_ret
    refine ⟨rfl, Only.setCell (S := fun k => k = p) (p := ⟨p, 0, none⟩) (Only.refl _ w) rfl _, ?_⟩
    exact H.out.set (j := 0) (by simp) (.slice none 0 0)
/-! ### overlays -/
abbrev ovC (x y : Int) : Array Value := #[.int .i64 x, .int .i64 y, .slice none 0 0, .int .i64 0, .bool true]
set_option maxHeartbeats 1000000 in
theorem ovalid0 (x y : Int) (h : Blk w o 184 (ovC x y)) : Calls Tryz.prog 167 #[pAt o] w fun e w' => e = .returned (.bool true) ∧ w = w' := by
  have c1 := h.cell (j := 4) rfl
  clear h
  go_enter Tryz.func167, Tryz.ntmps167
  go_wp2_with fail
  go_ret
  exact ⟨rfl, rfl⟩
set_option maxHeartbeats 1000000 in
theorem oplace_ok (a : Int) (h1 : 1 ≤ a) (h2 : a ≤ 1099511627776) (w : World) : Calls Tryz.prog 178 #[.int .i64 a] w fun e w' => e = .returned (.bool true) ∧ w = w' := by
  have d1 : decide ((1 : Int) ≤ a) = true := decide_eq_true h1
  have d2 : decide (a ≤ (1099511627776 : Int)) = true := decide_eq_true h2
  clear h1 h2
  go_enter Tryz.func178, Tryz.ntmps178
  go_wp2_with fail
  go_ret
  exact ⟨rfl, rfl⟩
set_option maxHeartbeats 1000000 in
theorem oapply0 (x y : Int) (v : Value) (h : Blk w o 184 (ovC x y)) : Calls Tryz.prog 169 #[pAt o, v] w fun e w' => e = .returned (.tuple #[]) ∧ w = w' := by
  have c2 := h.cell (j := 2) rfl
  clear h
  go_enter Tryz.func169, Tryz.ntmps169
  go_wp2_with fail
  go_loopw [11] (fun va wr => va = .int .i64 0 ∧ w = wr) (fun _ _ => 0)
  case atStart => exact ⟨rfl, rfl⟩
  case round =>
    obtain ⟨rfl, rfl⟩ := hrel
    go_wp2_with fail
    go_end0
    exact ⟨rfl, rfl⟩
set_option maxHeartbeats 1000000 in
theorem oins0 (x y : Int) (a n : Int) (h1 : 1 ≤ a) (h2 : a ≤ 65537) (h3 : 0 ≤ n) (h4 : n ≤ 65536) (h : Blk w o 184 (ovC x y)) : Calls Tryz.prog 127 #[pAt o, .int .i64 a, .int .i64 n] w fun e w' => e = .returned (.int .i64 0) ∧ Below w.heap.size w w' := by
  have d3 : decide (n < 0) = false := decide_eq_false (by omega)
  have d4 : decide ((65536 : Int) < n) = false := decide_eq_false (by omega)
  have HP := Lib.hid (oplace_ok a h1 (by omega) w)
  have HN := Lib.hid (ovalid0 x y h)
  have hb := below1 w (.cells #[.int .i64 a, .int .i64 n] 232)
  have H := Lib.hid (h.up hb)
  have hk := Blk.made w 232 #[.int .i64 a, .int .i64 n]
  have k0 := hk.cell (j := 0) rfl
  have k1 := hk.cell (j := 1) rfl
  have c2 := (h.up hb).cell (j := 2) rfl
  have HB := Lib.hid hb
  clear h h1 h2 h3 h4 hb hk
  go_enter Tryz.func127, Tryz.ntmps127
  go_wp2_with fail
  refine HN.out.mono ?_
  rintro e w' ⟨rfl, rfl⟩
  go_wp2_with fail
  refine HP.out.mono ?_
  rintro e w' ⟨rfl, rfl⟩
  go_wp2_with fail
  generalize w.alloc (.cells #[.int .i64 a, .int .i64 n] 232) = W at *
  go_loopw [35] (fun va wr => va = .int .i64 0 ∧ W = wr) (fun _ _ => 0)
  case atStart => exact ⟨rfl, rfl⟩
  case round =>
    obtain ⟨rfl, rfl⟩ := hrel
    go_wp2_with fail
    refine (oapply0 x y _ H.out).mono ?_
    rintro e w' ⟨rfl, rfl⟩
    go_wp2_with fail
    go_ret
    exact ⟨rfl, HB.out⟩
end
end Go.Proofs.YtklaeecegkpgmaaGreatDoor
/- What an insertion does to no marks. -/
namespace Go.Proofs.YtklaeecegkpgmaaGreatDoor
open Go.RowKit
set_option linter.unusedVariables false
set_option linter.unusedSimpArgs false
section
variable {w w' : World} {m mm : Nat}
abbrev encU (x : Unit) : Value := .int .i64 0
theorem mapT0 : Tryz.prog.underlying 176 = some (.map 3 205) := Tryz.underlying176
theorem neqMap0 (w : World) (r : Option Nat) : (binOp .neq 176 (.map r) (.map none)).run Tryz.prog w = .ok (.bool (!r.isNone)) w := run_neq_map_nil w _ _ _ r mapT0
/-- No marks: the object at block m, its map at block mm. -/
structure Mk0 (w : World) (m mm : Nat) : Prop where
  blk : Blk w m 178 #[.map (some mm), .int .i64 0]
  im : IM w mm encU []
theorem Mk0.up (h : Mk0 w m mm) (hb : Below w.heap.size w w') : Mk0 w' m mm := ⟨h.blk.up hb, by
  obtain ⟨l, c, h2, e⟩ := h.im
  exact ⟨l, c, ⟨(hb.block mm (Array.getElem?_eq_some_iff.1 h2.block).1).trans h2.block, h2.keys, h2.borns, h2.old⟩, e⟩⟩
theorem Mk0.made (h1 : Blk w m 178 #[.map (some mm), .int .i64 0]) (h2 : w.heap[mm]? = some (.map #[] 0)) : Mk0 w m mm := ⟨h1, [], 0, ⟨h2, List.nodup_nil, List.nodup_nil, fun x hx => by cases hx⟩, rfl⟩
set_option maxHeartbeats 1000000 in
theorem mmade0 (h : Mk0 w m mm) : Calls Tryz.prog 151 #[pAt m] w fun e w' => e = .returned (.bool true) ∧ w = w' := by
  have c0 := h.blk.cell (j := 0) rfl
  have hne := neqMap0 w (some mm)
  simp only [Option.isNone_some, Bool.not_false] at hne
  clear h
  go_enter Tryz.func151, Tryz.ntmps151
  go_wp2_with fail
  go_ret
  exact ⟨rfl, rfl⟩
set_option maxHeartbeats 1000000 in
theorem mplace_ok (a : Int) (h1 : 1 ≤ a) (h2 : a ≤ 1099511627776) (w : World) : Calls Tryz.prog 161 #[.int .i64 a] w fun e w' => e = .returned (.bool true) ∧ w = w' := by
  have d1 : decide ((1 : Int) ≤ a) = true := decide_eq_true h1
  have d2 : decide (a ≤ (1099511627776 : Int)) = true := decide_eq_true h2
  clear h1 h2
  go_enter Tryz.func161, Tryz.ntmps161
  go_wp2_with fail
  go_ret
  exact ⟨rfl, rfl⟩
set_option maxHeartbeats 1000000 in
theorem mchange0 (F : FuncId) (cp : Array Value) (h : Mk0 w m mm) : Calls Tryz.prog 162 #[pAt m, .func (.func F) #[] cp] w fun e w' => e = .returned (.tuple #[]) ∧ Below w.heap.size w w' := by
  have c0 := h.blk.cell (j := 0) rfl
  obtain ⟨w1, hrange, hir, hb1, hs1⟩ := h.im.range (P := Tryz.prog) mapT0
  clear h
  go_enter Tryz.func162, Tryz.ntmps162
  go_wp2_with fail
  clear hrange
  go_loopw [4] (fun _ wr => w1 = wr) (fun _ _ => 0)
  case atStart => rfl
  case round =>
    subst hrel
    rcases hir.next (P := Tryz.prog) with ⟨h0, hnx⟩ | ⟨k, v, w2, hk, _⟩
    · go_wp2_with fail
      go_end0
      exact ⟨rfl, hb1⟩
    · cases hk
set_option maxHeartbeats 1000000 in
theorem mins0 (a n : Int) (ah : Bool) (h1 : 1 ≤ a) (h2 : a ≤ 65537) (h3 : 0 ≤ n) (h4 : n ≤ 65536) (h : Mk0 w m mm) : Calls Tryz.prog 125 #[pAt m, .int .i64 a, .int .i64 n, .bool ah] w fun e w' => e = .returned (.int .i64 0) ∧ Below w.heap.size w w' := by
  have d3 : decide (n < 0) = false := decide_eq_false (by omega)
  have d4 : decide ((65536 : Int) < n) = false := decide_eq_false (by omega)
  have hb := below3 w (.cells #[.int .i64 a] 3) (.cells #[.int .i64 n] 3) (.cells #[.bool ah] 4)
  obtain ⟨a0, a1, a2⟩ := al3 w (.int .i64 a) (.int .i64 n) (.bool ah) 3 3 4
  have H := Lib.hid (h.up hb)
  have HB := Lib.hid hb
  have HP := Lib.hid fun W => mplace_ok a h1 (by omega) W
  clear h hb h1 h2 h3 h4
  go_enter Tryz.func125, Tryz.ntmps125
  go_wp2_with fail
  generalize ((w.alloc (.cells #[.int .i64 a] 3)).alloc (.cells #[.int .i64 n] 3)).alloc (.cells #[.bool ah] 4) = W at *
  refine (mmade0 H.out).mono ?_
  rintro e w' ⟨rfl, rfl⟩
  go_wp2_with fail
  refine (HP.out _).mono ?_
  rintro e w' ⟨rfl, rfl⟩
  have c0 := H.out.blk.cell (j := 0) rfl
  obtain ⟨w1, hrange, hir, hb1, hs1⟩ := H.out.im.range (P := Tryz.prog) mapT0
  go_wp2_with fail
  clear hrange
  have H1 := Lib.hid (H.out.up hb1)
  go_loopw [8] (fun _ wr => w1 = wr) (fun _ _ => 0)
  case atStart => rfl
  case round =>
    subst hrel
    rcases hir.next (P := Tryz.prog) with ⟨h0, hnx⟩ | ⟨k, v, w2, hk, _⟩
    · go_wp2_with fail
      refine (mchange0 _ _ H1.out).mono ?_
      rintro e w2 ⟨rfl, hb2⟩
      go_wp2_with fail
      go_ret
      exact ⟨rfl, up2 HB.out (up2 hb1 hb2)⟩
    · cases hk
end
end Go.Proofs.YtklaeecegkpgmaaGreatDoor
