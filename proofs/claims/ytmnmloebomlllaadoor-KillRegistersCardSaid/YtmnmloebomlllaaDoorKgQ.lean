/- Registers: the reference's Add. -/
import Derived.Test.YtmnmloebomlllaaDoorKgP
namespace Go.Proofs.YtmnmloebomlllaaDoor
open Go.RowKit
set_option linter.unusedVariables false
set_option linter.unusedSimpArgs false
section
variable {w w' : World} {bo : Nat} {v : Value} {l : List (Int × Reg)}
def raddM (lc : List (Int × Con)) (c d : Int) : List (Int × Con) := match lookM lc c with | none => lc | some x => if addE x d = 0 then rput lc c (addC x d) else lc
set_option maxRecDepth 100000 in
set_option maxHeartbeats 4000000 in
theorem rgadd_no (h : RefR w bo v l) (c d : Int) (hll : l.length ≤ 1000000) (hd0 : -9223372036854775808 ≤ d) (hd1 : d ≤ 9223372036854775807) (his : isL l c = false) :
    Calls Tryd.prog 30 #[.pointer (some ⟨bo, 0, none⟩), .int .i64 c, .int .i64 d] w (RrPost w bo v l 8 (conM l)) := by
  have HF := Lib.hid (his ▸ rgfind h c hll)
  have H := Lib.hid h
  clear his h
  go_enter Tryd.func30, Tryd.ntmps30
  go_wp2_with fail
  refine HF.out.mono ?_
  rintro e w1 ⟨rfl, hb⟩
  go_wp2_with fail
  go_ret
  exact RrPost.same H.out hb _
set_option maxRecDepth 100000 in
set_option maxHeartbeats 4000000 in
theorem rgadd_kind (h : RefR w bo v l) (c d : Int) (hll : l.length ≤ 1000000) (hd0 : -9223372036854775808 ≤ d) (hd1 : d ≤ 9223372036854775807) (his : isL l c = true) {x : Reg} (hi : l[ixL l c]? = some (c, x)) (h1 : x.kind ≠ 2) :
    Calls Tryd.prog 30 #[.pointer (some ⟨bo, 0, none⟩), .int .i64 c, .int .i64 d] w (RrPost w bo v l 2 (conM l)) := by
  have HF := Lib.hid (his ▸ rgfind h c hll)
  have H := Lib.hid h
  have HI := Lib.hid hi
  have hil := (List.getElem?_eq_some_iff.1 hi).1
  obtain ⟨k, n, id, t, A, cc, rows⟩ := x
  replace h1 : k ≠ 2 := h1
  have e1 : (k != (2 : Int)) = true := by simpa using h1
  clear h1 hd0 hd1
  clear his h
  go_enter Tryd.func30, Tryd.ntmps30
  go_wp2_with fail
  refine HF.out.mono ?_
  rintro e w1 ⟨rfl, hb⟩
  have h1 := H.out.up hb
  obtain ⟨g, cap, rfl, hc1, hc2, hBg, hgl, hfz, hcs⟩ := h1.own.lies eltQ (by omega)
  have c0 := h1.c0
  have q1 := hcs _ _ 1 _ HI.out rfl
  have q2 := hcs _ _ 2 _ HI.out rfl
  have hil' : (ixL l c : Int) < l.length := by omega
  have HB := Lib.hid hb
  generalize ixL l c = i at *
  clear h1 hfz hcs hi hb hBg hgl
  go_wp2_with fail
  go_ret
  exact RrPost.same H.out HB.out _
set_option maxRecDepth 100000 in
set_option maxHeartbeats 4000000 in
theorem rgadd_pos (h : RefR w bo v l) (c d : Int) (hll : l.length ≤ 1000000) (hd0 : -9223372036854775808 ≤ d) (hd1 : d ≤ 9223372036854775807) (his : isL l c = true) {x : Reg} (hi : l[ixL l c]? = some (c, x)) (h1 : x.kind = 2) (h2 : 0 < d) (h3 : 2305843009213693951 - d < x.n) :
    Calls Tryd.prog 30 #[.pointer (some ⟨bo, 0, none⟩), .int .i64 c, .int .i64 d] w (RrPost w bo v l 2 (conM l)) := by
  have HF := Lib.hid (his ▸ rgfind h c hll)
  have H := Lib.hid h
  have HI := Lib.hid hi
  have hil := (List.getElem?_eq_some_iff.1 hi).1
  obtain ⟨k, n, id, t, A, cc, rows⟩ := x
  replace h3 : 2305843009213693951 - d < n := h3
  obtain rfl : k = 2 := h1
  have e2 : decide ((0 : Int) < d) = true := decide_eq_true h2
  have e3 : decide (2305843009213693951 - d < n) = true := decide_eq_true h3
  clear his h
  go_enter Tryd.func30, Tryd.ntmps30
  go_wp2_with fail
  refine HF.out.mono ?_
  rintro e w1 ⟨rfl, hb⟩
  have h1 := H.out.up hb
  obtain ⟨g, cap, rfl, hc1, hc2, hBg, hgl, hfz, hcs⟩ := h1.own.lies eltQ (by omega)
  have c0 := h1.c0
  have q1 := hcs _ _ 1 _ HI.out rfl
  have q2 := hcs _ _ 2 _ HI.out rfl
  have hil' : (ixL l c : Int) < l.length := by omega
  have HB := Lib.hid hb
  generalize ixL l c = i at *
  clear h1 hfz hcs hi hb hBg hgl
  go_wp2_with fail
  go_ret
  exact RrPost.same H.out HB.out _
set_option maxRecDepth 100000 in
set_option maxHeartbeats 4000000 in
theorem rgadd_neg (h : RefR w bo v l) (c d : Int) (hll : l.length ≤ 1000000) (hd0 : -9223372036854775808 ≤ d) (hd1 : d ≤ 9223372036854775807) (his : isL l c = true) {x : Reg} (hi : l[ixL l c]? = some (c, x)) (h1 : x.kind = 2) (h2 : d < 0) (h3 : x.n < -2305843009213693952 - d) :
    Calls Tryd.prog 30 #[.pointer (some ⟨bo, 0, none⟩), .int .i64 c, .int .i64 d] w (RrPost w bo v l 2 (conM l)) := by
  have HF := Lib.hid (his ▸ rgfind h c hll)
  have H := Lib.hid h
  have HI := Lib.hid hi
  have hil := (List.getElem?_eq_some_iff.1 hi).1
  obtain ⟨k, n, id, t, A, cc, rows⟩ := x
  replace h3 : n < -2305843009213693952 - d := h3
  obtain rfl : k = 2 := h1
  have e1 : decide ((0 : Int) < d) = false := decide_eq_false (by omega)
  have e2 : decide (d < (0 : Int)) = true := decide_eq_true h2
  have e3 : decide (n < -2305843009213693952 - d) = true := decide_eq_true h3
  clear his h
  go_enter Tryd.func30, Tryd.ntmps30
  go_wp2_with fail
  refine HF.out.mono ?_
  rintro e w1 ⟨rfl, hb⟩
  have h1 := H.out.up hb
  obtain ⟨g, cap, rfl, hc1, hc2, hBg, hgl, hfz, hcs⟩ := h1.own.lies eltQ (by omega)
  have c0 := h1.c0
  have q1 := hcs _ _ 1 _ HI.out rfl
  have q2 := hcs _ _ 2 _ HI.out rfl
  have hil' : (ixL l c : Int) < l.length := by omega
  have HB := Lib.hid hb
  generalize ixL l c = i at *
  clear h1 hfz hcs hi hb hBg hgl
  go_wp2_with fail
  go_ret
  exact RrPost.same H.out HB.out _
set_option maxRecDepth 100000 in
set_option maxHeartbeats 4000000 in
theorem rgadd_pos1 (h : RefR w bo v l) (c d : Int) (hll : l.length ≤ 1000000) (hd0 : -9223372036854775808 ≤ d) (hd1 : d ≤ 9223372036854775807) (his : isL l c = true) {x : Reg} (hi : l[ixL l c]? = some (c, x)) (h1 : x.kind = 2) (h2 : 0 < d) (h3 : x.n ≤ 2305843009213693951 - d) :
    Calls Tryd.prog 30 #[.pointer (some ⟨bo, 0, none⟩), .int .i64 c, .int .i64 d] w (RrPost w bo v l 0 (rput (conM l) c (addC x.con d))) := by
  have hok := h.ok _ (List.mem_of_getElem? hi)
  have hnb := hok.n h1
  have hao := addC_ok (x := x.con) (d := d) (by unfold addE; rw [if_pos ⟨h1, by have : x.con.n = x.n := rfl; omega, by have : x.con.n = x.n := rfl; omega⟩]) hok.n
  have hEQ : conM (l.set (ixL l c) (c, ⟨x.kind, x.n + d, x.id, x.text, x.A, x.c, x.rows⟩)) = rput (conM l) c (addC x.con d) := by
    have := rput_map Reg.con l c ⟨x.kind, x.n + d, x.id, x.text, x.A, x.c, x.rows⟩
    unfold conM at *
    rw [show (addC x.con d) = Reg.con ⟨x.kind, x.n + d, x.id, x.text, x.A, x.c, x.rows⟩ from rfl, ← this]
    unfold rput; rw [if_pos his]
  have HE := Lib.hid hEQ
  have HF := Lib.hid (his ▸ rgfind h c hll)
  have H := Lib.hid h
  have HI := Lib.hid hi
  have hil := (List.getElem?_eq_some_iff.1 hi).1
  obtain ⟨k, n, id, t, A, cc, rows⟩ := x
  obtain rfl : k = 2 := h1
  replace hnb : -2305843009213693952 ≤ n ∧ n ≤ 2305843009213693951 := hnb
  have hnb1 := hnb.1
  have hnb2 := hnb.2
  replace h3 : n ≤ 2305843009213693951 - d := h3
  have e2 : decide ((0 : Int) < d) = true := decide_eq_true h2
  have e3 : decide (2305843009213693951 - d < n) = false := decide_eq_false (by omega)
  have e4 : decide (d < (0 : Int)) = false := decide_eq_false (by omega)
  have HAO := Lib.hid hao
  have HOK := Lib.hid hok
  clear his h hok hnb hao hEQ
  go_enter Tryd.func30, Tryd.ntmps30
  go_wp2_with fail
  refine HF.out.mono ?_
  rintro e w1 ⟨rfl, hb⟩
  have h1 := H.out.up hb
  obtain ⟨g, cap, rfl, hc1, hc2, hBg, hgl, hfz, hcs⟩ := h1.own.lies eltQ (by omega)
  have c0 := h1.c0
  have q1 := hcs _ _ 1 _ HI.out rfl
  have q2 := hcs _ _ 2 _ HI.out rfl
  have hil' : (ixL l c : Int) < l.length := by omega
  have z2 := hfz (ixL l c * 6 + 2) (by omega)
  have hin : RegIn w1 ⟨2, n, id, t, A, cc, rows⟩ := h1.regs (c, ⟨2, n, id, t, A, cc, rows⟩) (List.mem_of_getElem? HI.out)
  have hpu := (h1.put HI.out (y := (c, ⟨2, n + d, id, t, A, cc, rows⟩)) (j := 2) (by omega) rfl rfl ⟨hin.i, hin.l, hin.m⟩ (fun k hk => by
    have := h1.apart k ⟨_, List.mem_of_getElem? HI.out, hk⟩
    exact ⟨this.1, fun e => this.2 (by rw [e]; rfl)⟩) ⟨HOK.out.k0, HOK.out.k1, HOK.out.l, HAO.out⟩).drew
  have HS := Lib.hid hpu
  have HB := Lib.hid hb
  generalize ixL l c = i at *
  clear h1 hfz hcs hi hb hBg hgl hpu hin
  go_wp2_with fail
  go_region
  go_wp2_with fail
  go_ret
  exact ⟨_, _, rfl, HS.out, HE.out, (Only.of_below HB.out).trans (((Only.refl _ _).setCell (p := ⟨g, i * 6 + 2, none⟩) (.inr rfl) _).drew), fun g hg => foot_set hg fun h => .inl ⟨_, List.mem_of_getElem? HI.out, h⟩, fun g hg => .inl hg⟩
set_option maxRecDepth 100000 in
set_option maxHeartbeats 4000000 in
theorem rgadd_neg1 (h : RefR w bo v l) (c d : Int) (hll : l.length ≤ 1000000) (hd0 : -9223372036854775808 ≤ d) (hd1 : d ≤ 9223372036854775807) (his : isL l c = true) {x : Reg} (hi : l[ixL l c]? = some (c, x)) (h1 : x.kind = 2) (h2 : d < 0) (h3 : -2305843009213693952 - d ≤ x.n) :
    Calls Tryd.prog 30 #[.pointer (some ⟨bo, 0, none⟩), .int .i64 c, .int .i64 d] w (RrPost w bo v l 0 (rput (conM l) c (addC x.con d))) := by
  have hok := h.ok _ (List.mem_of_getElem? hi)
  have hnb := hok.n h1
  have hao := addC_ok (x := x.con) (d := d) (by unfold addE; rw [if_pos ⟨h1, by have : x.con.n = x.n := rfl; omega, by have : x.con.n = x.n := rfl; omega⟩]) hok.n
  have hEQ : conM (l.set (ixL l c) (c, ⟨x.kind, x.n + d, x.id, x.text, x.A, x.c, x.rows⟩)) = rput (conM l) c (addC x.con d) := by
    have := rput_map Reg.con l c ⟨x.kind, x.n + d, x.id, x.text, x.A, x.c, x.rows⟩
    unfold conM at *
    rw [show (addC x.con d) = Reg.con ⟨x.kind, x.n + d, x.id, x.text, x.A, x.c, x.rows⟩ from rfl, ← this]
    unfold rput; rw [if_pos his]
  have HE := Lib.hid hEQ
  have HF := Lib.hid (his ▸ rgfind h c hll)
  have H := Lib.hid h
  have HI := Lib.hid hi
  have hil := (List.getElem?_eq_some_iff.1 hi).1
  obtain ⟨k, n, id, t, A, cc, rows⟩ := x
  obtain rfl : k = 2 := h1
  replace hnb : -2305843009213693952 ≤ n ∧ n ≤ 2305843009213693951 := hnb
  have hnb1 := hnb.1
  have hnb2 := hnb.2
  replace h3 : -2305843009213693952 - d ≤ n := h3
  have e1 : decide ((0 : Int) < d) = false := decide_eq_false (by omega)
  have e2 : decide (d < (0 : Int)) = true := decide_eq_true h2
  have e3 : decide (n < -2305843009213693952 - d) = false := decide_eq_false (by omega)
  have HAO := Lib.hid hao
  have HOK := Lib.hid hok
  clear his h hok hnb hao hEQ
  go_enter Tryd.func30, Tryd.ntmps30
  go_wp2_with fail
  refine HF.out.mono ?_
  rintro e w1 ⟨rfl, hb⟩
  have h1 := H.out.up hb
  obtain ⟨g, cap, rfl, hc1, hc2, hBg, hgl, hfz, hcs⟩ := h1.own.lies eltQ (by omega)
  have c0 := h1.c0
  have q1 := hcs _ _ 1 _ HI.out rfl
  have q2 := hcs _ _ 2 _ HI.out rfl
  have hil' : (ixL l c : Int) < l.length := by omega
  have z2 := hfz (ixL l c * 6 + 2) (by omega)
  have hin : RegIn w1 ⟨2, n, id, t, A, cc, rows⟩ := h1.regs (c, ⟨2, n, id, t, A, cc, rows⟩) (List.mem_of_getElem? HI.out)
  have hpu := (h1.put HI.out (y := (c, ⟨2, n + d, id, t, A, cc, rows⟩)) (j := 2) (by omega) rfl rfl ⟨hin.i, hin.l, hin.m⟩ (fun k hk => by
    have := h1.apart k ⟨_, List.mem_of_getElem? HI.out, hk⟩
    exact ⟨this.1, fun e => this.2 (by rw [e]; rfl)⟩) ⟨HOK.out.k0, HOK.out.k1, HOK.out.l, HAO.out⟩).drew
  have HS := Lib.hid hpu
  have HB := Lib.hid hb
  generalize ixL l c = i at *
  clear h1 hfz hcs hi hb hBg hgl hpu hin
  go_wp2_with fail
  go_region
  go_wp2_with fail
  go_ret
  exact ⟨_, _, rfl, HS.out, HE.out, (Only.of_below HB.out).trans (((Only.refl _ _).setCell (p := ⟨g, i * 6 + 2, none⟩) (.inr rfl) _).drew), fun g hg => foot_set hg fun h => .inl ⟨_, List.mem_of_getElem? HI.out, h⟩, fun g hg => .inl hg⟩
set_option maxRecDepth 100000 in
set_option maxHeartbeats 4000000 in
theorem rgadd_zero (h : RefR w bo v l) (c d : Int) (hll : l.length ≤ 1000000) (hd0 : -9223372036854775808 ≤ d) (hd1 : d ≤ 9223372036854775807) (his : isL l c = true) {x : Reg} (hi : l[ixL l c]? = some (c, x)) (h1 : x.kind = 2) (h2 : d = 0) :
    Calls Tryd.prog 30 #[.pointer (some ⟨bo, 0, none⟩), .int .i64 c, .int .i64 d] w (RrPost w bo v l 0 (rput (conM l) c (addC x.con d))) := by
  have hok := h.ok _ (List.mem_of_getElem? hi)
  have hnb := hok.n h1
  have hao := addC_ok (x := x.con) (d := d) (by unfold addE; rw [if_pos ⟨h1, by have : x.con.n = x.n := rfl; omega, by have : x.con.n = x.n := rfl; omega⟩]) hok.n
  have hEQ : conM (l.set (ixL l c) (c, ⟨x.kind, x.n + d, x.id, x.text, x.A, x.c, x.rows⟩)) = rput (conM l) c (addC x.con d) := by
    have := rput_map Reg.con l c ⟨x.kind, x.n + d, x.id, x.text, x.A, x.c, x.rows⟩
    unfold conM at *
    rw [show (addC x.con d) = Reg.con ⟨x.kind, x.n + d, x.id, x.text, x.A, x.c, x.rows⟩ from rfl, ← this]
    unfold rput; rw [if_pos his]
  have HE := Lib.hid hEQ
  have HF := Lib.hid (his ▸ rgfind h c hll)
  have H := Lib.hid h
  have HI := Lib.hid hi
  have hil := (List.getElem?_eq_some_iff.1 hi).1
  obtain ⟨k, n, id, t, A, cc, rows⟩ := x
  obtain rfl : k = 2 := h1
  replace hnb : -2305843009213693952 ≤ n ∧ n ≤ 2305843009213693951 := hnb
  have hnb1 := hnb.1
  have hnb2 := hnb.2
  have h3 : d ≤ 0 := by omega
  have h4 : 0 ≤ d := by omega
  have e1 : decide ((0 : Int) < d) = false := decide_eq_false (by omega)
  have e2 : decide (d < (0 : Int)) = false := decide_eq_false (by omega)
  clear h2
  have HAO := Lib.hid hao
  have HOK := Lib.hid hok
  clear his h hok hnb hao hEQ
  go_enter Tryd.func30, Tryd.ntmps30
  go_wp2_with fail
  refine HF.out.mono ?_
  rintro e w1 ⟨rfl, hb⟩
  have h1 := H.out.up hb
  obtain ⟨g, cap, rfl, hc1, hc2, hBg, hgl, hfz, hcs⟩ := h1.own.lies eltQ (by omega)
  have c0 := h1.c0
  have q1 := hcs _ _ 1 _ HI.out rfl
  have q2 := hcs _ _ 2 _ HI.out rfl
  have hil' : (ixL l c : Int) < l.length := by omega
  have z2 := hfz (ixL l c * 6 + 2) (by omega)
  have hin : RegIn w1 ⟨2, n, id, t, A, cc, rows⟩ := h1.regs (c, ⟨2, n, id, t, A, cc, rows⟩) (List.mem_of_getElem? HI.out)
  have hpu := (h1.put HI.out (y := (c, ⟨2, n + d, id, t, A, cc, rows⟩)) (j := 2) (by omega) rfl rfl ⟨hin.i, hin.l, hin.m⟩ (fun k hk => by
    have := h1.apart k ⟨_, List.mem_of_getElem? HI.out, hk⟩
    exact ⟨this.1, fun e => this.2 (by rw [e]; rfl)⟩) ⟨HOK.out.k0, HOK.out.k1, HOK.out.l, HAO.out⟩).drew
  have HS := Lib.hid hpu
  have HB := Lib.hid hb
  generalize ixL l c = i at *
  clear h1 hfz hcs hi hb hBg hgl hpu hin
  go_wp2_with fail
  go_region
  go_wp2_with fail
  go_ret
  exact ⟨_, _, rfl, HS.out, HE.out, (Only.of_below HB.out).trans (((Only.refl _ _).setCell (p := ⟨g, i * 6 + 2, none⟩) (.inr rfl) _).drew), fun g hg => foot_set hg fun h => .inl ⟨_, List.mem_of_getElem? HI.out, h⟩, fun g hg => .inl hg⟩
theorem rgadd_any (h : RefR w bo v l) (c d : Int) (hll : l.length ≤ 1000000) (hd0 : -9223372036854775808 ≤ d) (hd1 : d ≤ 9223372036854775807) :
    Calls Tryd.prog 30 #[.pointer (some ⟨bo, 0, none⟩), .int .i64 c, .int .i64 d] w (RrPost w bo v l (addR (conM l) c d) (raddM (conM l) c d)) := by
  unfold addR raddM
  rw [lookM_con, lookM_sorted h.sorted]
  cases his : isL l c with
  | false => rw [if_neg (by decide)]; exact rgadd_no h c d hll hd0 hd1 his
  | true =>
    rw [if_pos rfl]
    obtain ⟨x, hi⟩ := isL_at his
    rw [hi]
    simp only [Option.map_some]
    by_cases h1 : x.kind = 2
    · rcases Int.lt_trichotomy 0 d with h2 | h2 | h2
      · by_cases h3 : x.n ≤ 2305843009213693951 - d
        · have e : addE x.con d = 0 := by unfold addE; rw [if_pos ⟨h1, fun _ => h3, fun _ => by omega⟩]
          rw [e, if_pos rfl]; exact rgadd_pos1 h c d hll hd0 hd1 his hi h1 h2 h3
        · have e : addE x.con d = 2 := by unfold addE; rw [if_neg fun h => h3 (h.2.1 h2)]
          rw [e, if_neg (by decide)]; exact rgadd_pos h c d hll hd0 hd1 his hi h1 h2 (by omega)
      · have e : addE x.con d = 0 := by unfold addE; rw [if_pos ⟨h1, fun _ => by omega, fun _ => by omega⟩]
        rw [e, if_pos rfl]; exact rgadd_zero h c d hll hd0 hd1 his hi h1 h2.symm
      · by_cases h3 : -2305843009213693952 - d ≤ x.n
        · have e : addE x.con d = 0 := by unfold addE; rw [if_pos ⟨h1, fun _ => by omega, fun _ => h3⟩]
          rw [e, if_pos rfl]; exact rgadd_neg1 h c d hll hd0 hd1 his hi h1 h2 h3
        · have e : addE x.con d = 2 := by unfold addE; rw [if_neg fun h => h3 (h.2.2 h2)]
          rw [e, if_neg (by decide)]; exact rgadd_neg h c d hll hd0 hd1 his hi h1 h2 (by omega)
    · have e : addE x.con d = 2 := by unfold addE; rw [if_neg fun h => h1 h.1]
      rw [e, if_neg (by decide)]; exact rgadd_kind h c d hll hd0 hd1 his hi h1
end
end Go.Proofs.YtmnmloebomlllaaDoor
