/- Registers: Add. -/
import Derived.Test.YtnbccoelbfgmgaaGreatDoorKgH
namespace Go.Proofs.YtnbccoelbfgmgaaGreatDoor
open Go.RowKit
set_option linter.unusedVariables false
set_option linter.unusedSimpArgs false
section
variable {w w' : World} {b bm N : Nat} {m : List (Int × Reg)}
def addE (x : Con) (d : Int) : Int := if x.kind = 2 ∧ (0 < d → x.n ≤ 2305843009213693951 - d) ∧ (d < 0 → -2305843009213693952 - d ≤ x.n) then 0 else 2
def addC (x : Con) (d : Int) : Con := ⟨x.kind, x.n + d, x.id, x.text, x.rows⟩
def addR (mc : List (Int × Con)) (c d : Int) : Int := match lookM mc c with | none => 8 | some x => addE x d
def addM (mc : List (Int × Con)) (c d : Int) : List (Int × Con) := match lookM mc c with | none => mc | some x => if addE x d = 0 then putM mc c (addC x d) else mc
set_option maxRecDepth 100000 in
set_option maxHeartbeats 1000000 in
theorem kadd_no (h : RegsAt w b bm m) {c : Int} (d : Int) (hx : lookM m c = none) :
    Calls Tryz.prog 17 #[.pointer (some ⟨b, 0, none⟩), .int .i64 c, .int .i64 d] w (RgPost w b bm m 8 (conM m)) := by
  have HN := Lib.hid (none_no h)
  have c0 := h.c0
  have hlt := h.lt
  have H := Lib.hid h
  have l1 := h.im.look_none mapT keyT hx true (zeroRg w)
  simp only [if_true, zeroG, regV, List.length_nil] at l1
  clear h hx
  go_enter Tryz.func17, Tryz.ntmps17
  go_wp2_with fail
  refine HN.out.mono ?_
  rintro e w' ⟨rfl, rfl⟩
  go_wp2_with fail
  go_ret
  exact ⟨m, rfl, H.out.up (below1 _ _), rfl, Only.of_below (below1 _ _), fun g hg => .inl hg⟩
set_option maxRecDepth 100000 in
set_option maxHeartbeats 1000000 in
theorem kadd_kind (h : RegsAt w b bm m) {c : Int} {x : Reg} (d : Int) (hx : lookM m c = some x) (hd0 : -9223372036854775808 ≤ d) (hd1 : d ≤ 9223372036854775807) (h1 : x.kind ≠ 2) :
    Calls Tryz.prog 17 #[.pointer (some ⟨b, 0, none⟩), .int .i64 c, .int .i64 d] w (RgPost w b bm m 2 (conM m)) := by
  have HN := Lib.hid (none_no h)
  have c0 := h.c0
  have hlt := h.lt
  have H := Lib.hid h
  have l1 := h.im.look_some mapT keyT hx true
  obtain ⟨k, n, id, t, A, cc, rows⟩ := x
  simp only [if_true, regV] at l1
  clear h hx
  replace h1 : k ≠ 2 := h1
  have e1 : (k != (2 : Int)) = true := by simpa using h1
  clear h1 hd0 hd1
  go_enter Tryz.func17, Tryz.ntmps17
  go_wp2_with fail
  refine HN.out.mono ?_
  rintro e w' ⟨rfl, rfl⟩
  go_wp2_with fail
  go_ret
  exact ⟨m, rfl, H.out.up (below1 _ _), rfl, Only.of_below (below1 _ _), fun g hg => .inl hg⟩
set_option maxRecDepth 100000 in
set_option maxHeartbeats 1000000 in
theorem kadd_pos (h : RegsAt w b bm m) {c : Int} {x : Reg} (d : Int) (hx : lookM m c = some x) (hd0 : -9223372036854775808 ≤ d) (hd1 : d ≤ 9223372036854775807) (h1 : x.kind = 2) (h2 : 0 < d) (h3 : 2305843009213693951 - d < x.n) :
    Calls Tryz.prog 17 #[.pointer (some ⟨b, 0, none⟩), .int .i64 c, .int .i64 d] w (RgPost w b bm m 2 (conM m)) := by
  have HN := Lib.hid (none_no h)
  have c0 := h.c0
  have hlt := h.lt
  have H := Lib.hid h
  have l1 := h.im.look_some mapT keyT hx true
  obtain ⟨k, n, id, t, A, cc, rows⟩ := x
  simp only [if_true, regV] at l1
  clear h hx
  replace h3 : 2305843009213693951 - d < n := h3
  obtain rfl : k = 2 := h1
  have e2 : decide ((0 : Int) < d) = true := decide_eq_true h2
  have e3 : decide (2305843009213693951 - d < n) = true := decide_eq_true h3
  go_enter Tryz.func17, Tryz.ntmps17
  go_wp2_with fail
  refine HN.out.mono ?_
  rintro e w' ⟨rfl, rfl⟩
  go_wp2_with fail
  go_ret
  exact ⟨m, rfl, H.out.up (below1 _ _), rfl, Only.of_below (below1 _ _), fun g hg => .inl hg⟩
set_option maxRecDepth 100000 in
set_option maxHeartbeats 1000000 in
theorem kadd_neg (h : RegsAt w b bm m) {c : Int} {x : Reg} (d : Int) (hx : lookM m c = some x) (hd0 : -9223372036854775808 ≤ d) (hd1 : d ≤ 9223372036854775807) (h1 : x.kind = 2) (h2 : d < 0) (h3 : x.n < -2305843009213693952 - d) :
    Calls Tryz.prog 17 #[.pointer (some ⟨b, 0, none⟩), .int .i64 c, .int .i64 d] w (RgPost w b bm m 2 (conM m)) := by
  have HN := Lib.hid (none_no h)
  have c0 := h.c0
  have hlt := h.lt
  have H := Lib.hid h
  have l1 := h.im.look_some mapT keyT hx true
  obtain ⟨k, n, id, t, A, cc, rows⟩ := x
  simp only [if_true, regV] at l1
  clear h hx
  replace h3 : n < -2305843009213693952 - d := h3
  obtain rfl : k = 2 := h1
  have e1 : decide ((0 : Int) < d) = false := decide_eq_false (by omega)
  have e2 : decide (d < (0 : Int)) = true := decide_eq_true h2
  have e3 : decide (n < -2305843009213693952 - d) = true := decide_eq_true h3
  go_enter Tryz.func17, Tryz.ntmps17
  go_wp2_with fail
  refine HN.out.mono ?_
  rintro e w' ⟨rfl, rfl⟩
  go_wp2_with fail
  go_ret
  exact ⟨m, rfl, H.out.up (below1 _ _), rfl, Only.of_below (below1 _ _), fun g hg => .inl hg⟩
theorem addC_ok {x : Con} {d : Int} (h : addE x d = 0) (h0 : x.kind = 2 → -2305843009213693952 ≤ x.n ∧ x.n ≤ 2305843009213693951) : (addC x d).kind = 2 → -2305843009213693952 ≤ (addC x d).n ∧ (addC x d).n ≤ 2305843009213693951 := by
  intro hk
  have h1 := h0 hk
  unfold addE at h
  by_cases c : x.kind = 2 ∧ (0 < d → x.n ≤ 2305843009213693951 - d) ∧ (d < 0 → -2305843009213693952 - d ≤ x.n)
  · show -2305843009213693952 ≤ x.n + d ∧ x.n + d ≤ 2305843009213693951
    omega
  · rw [if_neg c] at h; cases h
set_option maxRecDepth 100000 in
set_option maxHeartbeats 1000000 in
theorem kadd_pos1 (h : RegsAt w b bm m) {c : Int} {x : Reg} (d : Int) (hx : lookM m c = some x) (hd0 : -9223372036854775808 ≤ d) (hd1 : d ≤ 9223372036854775807) (h1 : x.kind = 2) (h2 : 0 < d) (h3 : x.n ≤ 2305843009213693951 - d) :
    Calls Tryz.prog 17 #[.pointer (some ⟨b, 0, none⟩), .int .i64 c, .int .i64 d] w (RgPost w b bm m 0 (putM (conM m) c (addC x.con d))) := by
  have HN := Lib.hid (none_no h)
  have c0 := h.c0
  have hlt := h.lt
  have l1 := h.im.look_some mapT keyT hx true
  have hok := h.ok (c, x) (lookM_mem hx)
  have hin := h.regs (c, x) (lookM_mem hx)
  have hnb := hok.n h1
  have HM := Lib.hid (lookM_mem hx)
  have hao := addC_ok (x := x.con) (d := d) (by unfold addE; rw [if_pos ⟨h1, by have : x.con.n = x.n := rfl; omega, by have : x.con.n = x.n := rfl; omega⟩]) hok.n
  obtain ⟨k, n, id, t, A, cc, rows⟩ := x
  obtain rfl : k = 2 := h1
  simp only [if_true, regV] at l1
  have hb1 := below1 w (.cells #[.int .i64 2, .int .i64 (n + d), .int .i64 id, .string t, .slice A rows.length cc] 43)
  have h1 : RegsAt _ b bm m := h.up (hb1.drew)
  have hin1 : RegIn _ ⟨2, n + d, id, t, A, cc, rows⟩ := ⟨(hin.up hb1.drew).i, hin.l, hin.m⟩
  obtain ⟨w2, hrun, him, hgr, hsz⟩ := h1.im.store mapT keyT c ⟨2, n + d, id, t, A, cc, rows⟩
  have HF := Lib.hid (h1.put c ⟨2, n + d, id, t, A, cc, rows⟩ hin1 ⟨hok.k0, hok.k1, hok.l, hao⟩ him hgr)
  have HG := Lib.hid hgr
  have HB := Lib.hid hb1.drew
  replace hnb : -2305843009213693952 ≤ n ∧ n ≤ 2305843009213693951 := hnb
  have hnb1 := hnb.1
  have hnb2 := hnb.2
  replace h3 : n ≤ 2305843009213693951 - d := h3
  have e2 : decide ((0 : Int) < d) = true := decide_eq_true h2
  have e3 : decide (2305843009213693951 - d < n) = false := decide_eq_false (by omega)
  have e4 : decide (d < (0 : Int)) = false := decide_eq_false (by omega)
  clear h hx h1 hin hin1 him hgr hsz hok hao hb1 hnb
  go_enter Tryz.func17, Tryz.ntmps17
  go_wp2_with fail
  refine HN.out.mono ?_
  rintro e w' ⟨rfl, rfl⟩
  go_wp2_with fail
  go_region
  go_wp2_with fail
  go_ret
  exact ⟨_, rfl, HF.out, by rw [putM_con]; rfl, (Only.of_below HB.out).trans (Only.of_grown HG.out rfl), fun g hg => foot_put hg fun h => .inl ⟨_, HM.out, h⟩⟩
set_option maxRecDepth 100000 in
set_option maxHeartbeats 1000000 in
theorem kadd_neg1 (h : RegsAt w b bm m) {c : Int} {x : Reg} (d : Int) (hx : lookM m c = some x) (hd0 : -9223372036854775808 ≤ d) (hd1 : d ≤ 9223372036854775807) (h1 : x.kind = 2) (h2 : d < 0) (h3 : -2305843009213693952 - d ≤ x.n) :
    Calls Tryz.prog 17 #[.pointer (some ⟨b, 0, none⟩), .int .i64 c, .int .i64 d] w (RgPost w b bm m 0 (putM (conM m) c (addC x.con d))) := by
  have HN := Lib.hid (none_no h)
  have c0 := h.c0
  have hlt := h.lt
  have l1 := h.im.look_some mapT keyT hx true
  have hok := h.ok (c, x) (lookM_mem hx)
  have hin := h.regs (c, x) (lookM_mem hx)
  have hnb := hok.n h1
  have HM := Lib.hid (lookM_mem hx)
  have hao := addC_ok (x := x.con) (d := d) (by unfold addE; rw [if_pos ⟨h1, by have : x.con.n = x.n := rfl; omega, by have : x.con.n = x.n := rfl; omega⟩]) hok.n
  obtain ⟨k, n, id, t, A, cc, rows⟩ := x
  obtain rfl : k = 2 := h1
  simp only [if_true, regV] at l1
  have hb1 := below1 w (.cells #[.int .i64 2, .int .i64 (n + d), .int .i64 id, .string t, .slice A rows.length cc] 43)
  have h1 : RegsAt _ b bm m := h.up (hb1.drew)
  have hin1 : RegIn _ ⟨2, n + d, id, t, A, cc, rows⟩ := ⟨(hin.up hb1.drew).i, hin.l, hin.m⟩
  obtain ⟨w2, hrun, him, hgr, hsz⟩ := h1.im.store mapT keyT c ⟨2, n + d, id, t, A, cc, rows⟩
  have HF := Lib.hid (h1.put c ⟨2, n + d, id, t, A, cc, rows⟩ hin1 ⟨hok.k0, hok.k1, hok.l, hao⟩ him hgr)
  have HG := Lib.hid hgr
  have HB := Lib.hid hb1.drew
  replace hnb : -2305843009213693952 ≤ n ∧ n ≤ 2305843009213693951 := hnb
  have hnb1 := hnb.1
  have hnb2 := hnb.2
  replace h3 : -2305843009213693952 - d ≤ n := h3
  have e1 : decide ((0 : Int) < d) = false := decide_eq_false (by omega)
  have e2 : decide (d < (0 : Int)) = true := decide_eq_true h2
  have e3 : decide (n < -2305843009213693952 - d) = false := decide_eq_false (by omega)
  clear h hx h1 hin hin1 him hgr hsz hok hao hb1 hnb
  go_enter Tryz.func17, Tryz.ntmps17
  go_wp2_with fail
  refine HN.out.mono ?_
  rintro e w' ⟨rfl, rfl⟩
  go_wp2_with fail
  go_region
  go_wp2_with fail
  go_ret
  exact ⟨_, rfl, HF.out, by rw [putM_con]; rfl, (Only.of_below HB.out).trans (Only.of_grown HG.out rfl), fun g hg => foot_put hg fun h => .inl ⟨_, HM.out, h⟩⟩
set_option maxRecDepth 100000 in
set_option maxHeartbeats 1000000 in
theorem kadd_zero (h : RegsAt w b bm m) {c : Int} {x : Reg} (d : Int) (hx : lookM m c = some x) (hd0 : -9223372036854775808 ≤ d) (hd1 : d ≤ 9223372036854775807) (h1 : x.kind = 2) (h2 : d = 0) :
    Calls Tryz.prog 17 #[.pointer (some ⟨b, 0, none⟩), .int .i64 c, .int .i64 d] w (RgPost w b bm m 0 (putM (conM m) c (addC x.con d))) := by
  have HN := Lib.hid (none_no h)
  have c0 := h.c0
  have hlt := h.lt
  have l1 := h.im.look_some mapT keyT hx true
  have hok := h.ok (c, x) (lookM_mem hx)
  have hin := h.regs (c, x) (lookM_mem hx)
  have hnb := hok.n h1
  have HM := Lib.hid (lookM_mem hx)
  have hao := addC_ok (x := x.con) (d := d) (by unfold addE; rw [if_pos ⟨h1, by have : x.con.n = x.n := rfl; omega, by have : x.con.n = x.n := rfl; omega⟩]) hok.n
  obtain ⟨k, n, id, t, A, cc, rows⟩ := x
  obtain rfl : k = 2 := h1
  simp only [if_true, regV] at l1
  have hb1 := below1 w (.cells #[.int .i64 2, .int .i64 (n + d), .int .i64 id, .string t, .slice A rows.length cc] 43)
  have h1 : RegsAt _ b bm m := h.up (hb1.drew)
  have hin1 : RegIn _ ⟨2, n + d, id, t, A, cc, rows⟩ := ⟨(hin.up hb1.drew).i, hin.l, hin.m⟩
  obtain ⟨w2, hrun, him, hgr, hsz⟩ := h1.im.store mapT keyT c ⟨2, n + d, id, t, A, cc, rows⟩
  have HF := Lib.hid (h1.put c ⟨2, n + d, id, t, A, cc, rows⟩ hin1 ⟨hok.k0, hok.k1, hok.l, hao⟩ him hgr)
  have HG := Lib.hid hgr
  have HB := Lib.hid hb1.drew
  replace hnb : -2305843009213693952 ≤ n ∧ n ≤ 2305843009213693951 := hnb
  have hnb1 := hnb.1
  have hnb2 := hnb.2
  have h3 : d ≤ 0 := by omega
  have h4 : 0 ≤ d := by omega
  have e1 : decide ((0 : Int) < d) = false := decide_eq_false (by omega)
  have e2 : decide (d < (0 : Int)) = false := decide_eq_false (by omega)
  clear h2
  clear h hx h1 hin hin1 him hgr hsz hok hao hb1 hnb
  go_enter Tryz.func17, Tryz.ntmps17
  go_wp2_with fail
  refine HN.out.mono ?_
  rintro e w' ⟨rfl, rfl⟩
  go_wp2_with fail
  go_region
  go_wp2_with fail
  go_ret
  exact ⟨_, rfl, HF.out, by rw [putM_con]; rfl, (Only.of_below HB.out).trans (Only.of_grown HG.out rfl), fun g hg => foot_put hg fun h => .inl ⟨_, HM.out, h⟩⟩
theorem kadd_any (h : RegsAt w b bm m) (c d : Int) (hd0 : -9223372036854775808 ≤ d) (hd1 : d ≤ 9223372036854775807) :
    Calls Tryz.prog 17 #[.pointer (some ⟨b, 0, none⟩), .int .i64 c, .int .i64 d] w (RgPost w b bm m (addR (conM m) c d) (addM (conM m) c d)) := by
  unfold addR addM
  rw [lookM_con]
  cases hx : lookM m c with
  | none => exact kadd_no h d hx
  | some x =>
    simp only [Option.map_some]
    by_cases h1 : x.kind = 2
    · rcases Int.lt_trichotomy 0 d with h2 | h2 | h2
      · by_cases h3 : x.n ≤ 2305843009213693951 - d
        · have e : addE x.con d = 0 := by unfold addE; rw [if_pos ⟨h1, fun _ => h3, fun _ => by omega⟩]
          rw [e, if_pos rfl]; exact kadd_pos1 h d hx hd0 hd1 h1 h2 h3
        · have e : addE x.con d = 2 := by unfold addE; rw [if_neg fun h => h3 (h.2.1 h2)]
          rw [e, if_neg (by decide)]; exact kadd_pos h d hx hd0 hd1 h1 h2 (by omega)
      · have e : addE x.con d = 0 := by unfold addE; rw [if_pos ⟨h1, fun _ => by omega, fun _ => by omega⟩]
        rw [e, if_pos rfl]; exact kadd_zero h d hx hd0 hd1 h1 h2.symm
      · by_cases h3 : -2305843009213693952 - d ≤ x.n
        · have e : addE x.con d = 0 := by unfold addE; rw [if_pos ⟨h1, fun _ => by omega, fun _ => h3⟩]
          rw [e, if_pos rfl]; exact kadd_neg1 h d hx hd0 hd1 h1 h2 h3
        · have e : addE x.con d = 2 := by unfold addE; rw [if_neg fun h => h3 (h.2.2 h2)]
          rw [e, if_neg (by decide)]; exact kadd_neg h d hx hd0 hd1 h1 h2 (by omega)
    · have e : addE x.con d = 2 := by unfold addE; rw [if_neg fun h => h1 h.1]
      rw [e, if_neg (by decide)]; exact kadd_kind h d hx hd0 hd1 h1
end
end Go.Proofs.YtnbccoelbfgmgaaGreatDoor
