/- Registers: the reference's Set. -/
import Derived.Test.YtmnmloebomlllaaDoorKgM
import Derived.Deep.RegionLaw
namespace Go.Proofs.YtmnmloebomlllaaDoor
open Go.RowKit
set_option linter.unusedVariables false
set_option linter.unusedSimpArgs false
section
variable {w w' : World} {bo : Nat} {v : Value} {l : List (Int × Reg)}
def RrPost (w : World) (bo : Nat) (v : Value) (l : List (Int × Reg)) (er : Int) (lc : List (Int × Con)) (e : Ending) (w' : World) : Prop :=
  ∃ v' l', e = .returned (.int .i64 er) ∧ RefR w' bo v' l' ∧ conM l' = lc ∧ Only (fun k => k = bo ∨ v.ownBlock = some k) w w' ∧ (∀ g, Foot l' g → Foot l g ∨ w.heap.size ≤ g) ∧ (∀ g, v'.ownBlock = some g → v.ownBlock = some g ∨ w.heap.size ≤ g)
def rsetM (lc : List (Int × Con)) (c : Int) (x : Con) : List (Int × Con) := if setE c x = 0 then rput lc c (plainC x) else lc
theorem conM_length (l : List (Int × Reg)) : (conM l).length = l.length := by simp [conM]
theorem RrPost.same (h : RefR w bo v l) (hb : Below w.heap.size w w') (er : Int) : RrPost w bo v l er (conM l) (.returned (.int .i64 er)) w' :=
  ⟨v, l, rfl, h.up hb, rfl, Only.of_below hb, fun g hg => .inl hg, fun g hg => .inl hg⟩
/-- One cell of a pair stored. -/
theorem RefR.put {g cap : Nat} (h : RefR w bo (.slice (some ⟨g, 0, none⟩) l.length cap) l) {i j : Nat} {x y : Int × Reg} {u : Value} (hi : l[i]? = some x) (hj : j < 6) (he : encQ y = (encQ x).set j u) (hk : y.1 = x.1) (hr : RegIn w y.2) (ha : ∀ k, regBlk y.2 k → k ≠ bo ∧ k ≠ g) (hok : RegOk y) :
    RefR (w.setCell ⟨g, i * 6 + j, none⟩ u) bo (.slice (some ⟨g, 0, none⟩) l.length cap) (l.set i y) := by
  have hne : g ≠ bo := fun e => h.ne (by rw [e]; rfl)
  have ho : Only (· = g) w (w.setCell ⟨g, i * 6 + j, none⟩ u) := (Only.refl _ w).setB _ _
  have hap : ∀ k, Foot (l.set i y) k → k ≠ bo ∧ k ≠ g := fun k ⟨p, hp, hg⟩ => by
    rcases List.mem_or_eq_of_mem_set hp with h1 | rfl
    · have := h.apart k ⟨p, h1, hg⟩
      exact ⟨this.1, fun e => this.2 (by rw [e]; rfl)⟩
    · exact ha k hg
  refine ⟨?_, by rw [World.frozen?_setCell]; exact h.f0, h.own.put eltQ hi hj he, h.ne, fun p hp => ?_, fun k hk => ⟨(hap k hk).1, fun e => (hap k hk).2 (by cases e; rfl)⟩, fun p hp => ?_, ?_⟩
  · rw [World.cell?_of_block (w := w) (a := ⟨bo, 0, none⟩) (Below.heap_setCell _ _ _ _ (fun e => hne e.symm))]; exact h.c0
  · rcases List.mem_or_eq_of_mem_set hp with h1 | rfl
    · exact (h.regs p h1).only ho (fun k hk e => (h.apart k ⟨p, h1, hk⟩).2 (by rw [e]; rfl))
    · exact hr.only ho (fun k hk e => (ha k hk).2 e)
  · rcases List.mem_or_eq_of_mem_set hp with h1 | rfl
    · exact h.ok p h1
    · exact hok
  · have : (l.set i y).map (·.1) = l.map (·.1) := by
      rw [List.map_set]
      apply List.ext_getElem?
      intro t
      by_cases e : i = t
      · subst e
        have hj := (List.getElem?_eq_some_iff.1 hi).1
        rw [List.getElem?_set_self (by simpa using hj), List.getElem?_map, hi, hk]; rfl
      · rw [List.getElem?_set_ne e]
    rw [this]; exact h.sorted
theorem RefR.drew (h : RefR w bo v l) : RefR w.drew bo v l := ⟨h.c0, h.f0, h.own.kept (fun _ _ => rfl), h.ne, fun p hp => ⟨(h.regs p hp).i.kept (Nat.le_refl _) (fun _ _ _ => rfl), (h.regs p hp).l, (h.regs p hp).m⟩, h.apart, h.ok, h.sorted⟩
theorem foot_set {i : Nat} {y : Int × Reg} {g N : Nat} (h : Foot (l.set i y) g) (hy : regBlk y.2 g → Foot l g ∨ N ≤ g) : Foot l g ∨ N ≤ g := by
  obtain ⟨p, hp, hg⟩ := h
  rcases List.mem_or_eq_of_mem_set hp with h1 | rfl
  · exact .inl ⟨p, h1, hg⟩
  · exact hy hg
/-- A register stored over the one at i. -/
theorem RefR.store {g cap : Nat} (h : RefR w bo (.slice (some ⟨g, 0, none⟩) l.length cap) l) {i : Nat} {c : Int} {x y : Reg} (hi : l[i]? = some (c, x)) (hr : RegIn w y) (hf : ∀ k, regBlk y k → k ≠ bo ∧ k ≠ g) (hok : RegOk (c, y)) :
    RefR (((((w.setCell ⟨g, i * 6 + 1, none⟩ (.int .i64 y.kind)).setCell ⟨g, i * 6 + 2, none⟩ (.int .i64 y.n)).setCell ⟨g, i * 6 + 3, none⟩ (.int .i64 y.id)).setCell ⟨g, i * 6 + 4, none⟩ (.string y.text)).setCell ⟨g, i * 6 + 5, none⟩ (.slice y.A y.rows.length y.c)) bo (.slice (some ⟨g, 0, none⟩) l.length cap) (l.set i (c, y)) := by
  have hlen := (List.getElem?_eq_some_iff.1 hi).1
  have hne : g ≠ bo := fun e => h.ne (by rw [e]; rfl)
  have hown : ROwn encQ 90 6 0 (((((w.setCell ⟨g, i * 6 + 1, none⟩ (.int .i64 y.kind)).setCell ⟨g, i * 6 + 2, none⟩ (.int .i64 y.n)).setCell ⟨g, i * 6 + 3, none⟩ (.int .i64 y.id)).setCell ⟨g, i * 6 + 4, none⟩ (.string y.text)).setCell ⟨g, i * 6 + 5, none⟩ (.slice y.A y.rows.length y.c)) (.slice (some ⟨g, 0, none⟩) l.length cap) (l.set i (c, y)) := by
    have h1 := h.own.put eltQ (y := (c, ⟨y.kind, x.n, x.id, x.text, x.A, x.c, x.rows⟩)) (j := 1) hi (by omega) rfl
    rw [show l.length = (l.set i (c, (⟨y.kind, x.n, x.id, x.text, x.A, x.c, x.rows⟩ : Reg))).length by simp] at h1
    have h2 := h1.put eltQ (i := i) (x := (c, ⟨y.kind, x.n, x.id, x.text, x.A, x.c, x.rows⟩)) (y := (c, ⟨y.kind, y.n, x.id, x.text, x.A, x.c, x.rows⟩)) (j := 2) (List.getElem?_set_self hlen) (by omega) rfl
    rw [List.set_set, show (l.set i (c, (⟨y.kind, x.n, x.id, x.text, x.A, x.c, x.rows⟩ : Reg))).length = (l.set i (c, (⟨y.kind, y.n, x.id, x.text, x.A, x.c, x.rows⟩ : Reg))).length by simp] at h2
    have h3 := h2.put eltQ (i := i) (x := (c, ⟨y.kind, y.n, x.id, x.text, x.A, x.c, x.rows⟩)) (y := (c, ⟨y.kind, y.n, y.id, x.text, x.A, x.c, x.rows⟩)) (j := 3) (List.getElem?_set_self hlen) (by omega) rfl
    rw [List.set_set, show (l.set i (c, (⟨y.kind, y.n, x.id, x.text, x.A, x.c, x.rows⟩ : Reg))).length = (l.set i (c, (⟨y.kind, y.n, y.id, x.text, x.A, x.c, x.rows⟩ : Reg))).length by simp] at h3
    have h4 := h3.put eltQ (i := i) (x := (c, ⟨y.kind, y.n, y.id, x.text, x.A, x.c, x.rows⟩)) (y := (c, ⟨y.kind, y.n, y.id, y.text, x.A, x.c, x.rows⟩)) (j := 4) (List.getElem?_set_self hlen) (by omega) rfl
    rw [List.set_set, show (l.set i (c, (⟨y.kind, y.n, y.id, x.text, x.A, x.c, x.rows⟩ : Reg))).length = (l.set i (c, (⟨y.kind, y.n, y.id, y.text, x.A, x.c, x.rows⟩ : Reg))).length by simp] at h4
    have h5 := h4.put eltQ (i := i) (x := (c, ⟨y.kind, y.n, y.id, y.text, x.A, x.c, x.rows⟩)) (y := (c, y)) (j := 5) (List.getElem?_set_self hlen) (by omega) rfl
    rw [List.set_set, show (l.set i (c, (⟨y.kind, y.n, y.id, y.text, x.A, x.c, x.rows⟩ : Reg))).length = l.length by simp] at h5
    exact h5
  have ho : Only (· = g) w (((((w.setCell ⟨g, i * 6 + 1, none⟩ (.int .i64 y.kind)).setCell ⟨g, i * 6 + 2, none⟩ (.int .i64 y.n)).setCell ⟨g, i * 6 + 3, none⟩ (.int .i64 y.id)).setCell ⟨g, i * 6 + 4, none⟩ (.string y.text)).setCell ⟨g, i * 6 + 5, none⟩ (.slice y.A y.rows.length y.c)) :=
    (((((Only.refl (· = g) w).setB _ _).setB _ _).setB _ _).setB _ _).setB _ _
  have hap : ∀ k, Foot (l.set i (c, y)) k → k ≠ bo ∧ k ≠ g := fun k ⟨p, hp, hg⟩ => by
    rcases List.mem_or_eq_of_mem_set hp with h1 | rfl
    · have := h.apart k ⟨p, h1, hg⟩
      exact ⟨this.1, fun e => this.2 (by rw [e]; rfl)⟩
    · exact hf k hg
  refine ⟨(World.cell?_of_block (w := w) (a := ⟨bo, 0, none⟩) (ho.block bo h.lt (fun e => hne e.symm))).trans h.c0, (World.frozen?_of_block (w := w) (a := ⟨bo, 0, none⟩) (ho.block bo h.lt (fun e => hne e.symm))).trans h.f0, hown, h.ne, fun p hp => ?_, fun k hk => ⟨(hap k hk).1, fun e => (hap k hk).2 (by cases e; rfl)⟩, fun p hp => ?_, ?_⟩
  · rcases List.mem_or_eq_of_mem_set hp with h1 | rfl
    · exact (h.regs p h1).only ho (fun k hk e => (h.apart k ⟨p, h1, hk⟩).2 (by rw [e]; rfl))
    · exact hr.only ho (fun k hk e => (hf k hk).2 e)
  · rcases List.mem_or_eq_of_mem_set hp with h1 | rfl
    · exact h.ok p h1
    · exact hok
  · have : (l.set i (c, y)).map (·.1) = l.map (·.1) := by
      rw [List.map_set]
      apply List.ext_getElem?
      intro t
      by_cases e : i = t
      · subst e
        rw [List.getElem?_set_self (by simpa using hlen), List.getElem?_map, hi]; rfl
      · rw [List.getElem?_set_ne e]
    rw [this]; exact h.sorted
/-- The slice set anew, in a block of its own. -/
theorem RefR.setL {w1 : World} {v' : Value} {l' : List (Int × Reg)} (h : RefR w bo v l) (hb : Below w.heap.size w w1) (hown : ROwn encQ 90 6 w.heap.size w1 v' l') (hm : ∀ p ∈ l', RegIn w p.2 ∧ RegOk p ∧ ∀ g, regBlk p.2 g → g ≠ bo)
    (hs : (l'.map (·.1)).Pairwise (· < ·)) : RefR (w1.setCell ⟨bo, 0, none⟩ v') bo v' l' := by
  have hlt := h.lt
  have h1 := h.up hb
  have hne : v'.ownBlock ≠ some bo := fun e => by have := hown.base e; omega
  have ho : Only (· = bo) w1 (w1.setCell ⟨bo, 0, none⟩ v') := (Only.refl _ w1).setB _ _
  refine ⟨World.cell?_setCell_same' _ _ _ (by rw [h1.c0]; rfl), by rw [World.frozen?_setCell]; exact h1.f0, (hown.kept fun g hg => Below.heap_setCell _ _ _ _ (fun e => hne (by rw [show g = bo from e] at hg; exact hg))).low (Nat.zero_le _), hne,
    fun p hp => ((hm p hp).1.up hb).only ho (fun g hg e => (hm p hp).2.2 g hg e), fun g ⟨p, hp, hg⟩ => ⟨(hm p hp).2.2 g hg, fun e => ?_⟩, fun p hp => (hm p hp).2.1, hs⟩
  have a := hown.base e
  have b := (hm p hp).1.blk_lt hg
  omega
set_option maxRecDepth 100000 in
set_option maxHeartbeats 4000000 in
theorem rset_char (h : RefR w bo v l) (c : Int) (r : Reg) (hr : RSl encS w r.A r.rows) (hl : r.rows.length ≤ 1000000) (hs : ∀ s ∈ r.rows, s.size ≤ 1000000000) (ht : r.text.size ≤ 1000000000) (hll : l.length ≤ 1000000) (hch : charI c = false) :
    Calls Tryd.prog 28 #[.pointer (some ⟨bo, 0, none⟩), .int .i64 c, regV r] w (RrPost w bo v l 2 (conM l)) := by
  have HC := Lib.hid (fun w => hch ▸ rchar c w)
  have H := Lib.hid h
  obtain ⟨k, n, id, t, A, cc, rows⟩ := r
  clear h hr hch hs
  go_enter Tryd.func28, Tryd.ntmps28
  go_wp2_with fail
  refine (HC.out _).mono ?_
  rintro e w' ⟨rfl, rfl⟩
  go_wp2_with fail
  go_ret
  exact RrPost.same H.out (below1 _ _) _
set_option maxRecDepth 100000 in
set_option maxHeartbeats 4000000 in
theorem rset_err (h : RefR w bo v l) (c : Int) (r : Reg) (hr : RSl encS w r.A r.rows) (hl : r.rows.length ≤ 1000000) (hs : ∀ s ∈ r.rows, s.size ≤ 1000000000) (ht : r.text.size ≤ 1000000000) (hll : l.length ≤ 1000000) (hch : charI c = true) (her : plainE r.con ≠ 0) :
    Calls Tryd.prog 28 #[.pointer (some ⟨bo, 0, none⟩), .int .i64 c, regV r] w (RrPost w bo v l (plainE r.con) (conM l)) := by
  have HC := Lib.hid (fun w => hch ▸ rchar c w)
  have HP := Lib.hid (fun (w1 : World) (hb : Below w.heap.size w w1) => rplain_any r w1 (hr.up hb) hl hs ht)
  have H := Lib.hid h
  obtain ⟨k, n, id, t, A, cc, rows⟩ := r
  generalize plainE (Reg.con ⟨k, n, id, t, A, cc, rows⟩) = er at *
  generalize plainC (Reg.con ⟨k, n, id, t, A, cc, rows⟩) = co at *
  have h2 : (er == 0) = false := by simpa using her
  have h3 : (er != 0) = true := by simpa using her
  clear h hr hch hs her
  go_enter Tryd.func28, Tryd.ntmps28
  go_wp2_with fail
  refine (HC.out _).mono ?_
  rintro e w' ⟨rfl, rfl⟩
  go_wp2_with fail
  refine (HP.out _ (below1 _ _)).mono ?_
  rintro e w1 ⟨⟨yk, yn, yi, yt, yA, yc, yr⟩, rfl, hy, hin, hfr, hb⟩
  have HB := Lib.hid (up2 (up2 (below1 _ _) hb) (below1 w1 (.cells #[.int .i64 yk, .int .i64 yn, .int .i64 yi, .string yt, .slice yA yr.length yc] 56)))
  clear hy hin hfr hb
  go_wp2_with fail
  go_ret
  exact RrPost.same H.out HB.out _
set_option maxRecDepth 100000 in
set_option maxHeartbeats 4000000 in
theorem rset_old (h : RefR w bo v l) (c : Int) (r : Reg) (hr : RSl encS w r.A r.rows) (hl : r.rows.length ≤ 1000000) (hs : ∀ s ∈ r.rows, s.size ≤ 1000000000) (ht : r.text.size ≤ 1000000000) (hll : l.length ≤ 1000000) (hch : charI c = true) (her : plainE r.con = 0) (his : isL l c = true) :
    Calls Tryd.prog 28 #[.pointer (some ⟨bo, 0, none⟩), .int .i64 c, regV r] w (RrPost w bo v l 0 (rput (conM l) c (plainC r.con))) := by
  have HC := Lib.hid (fun w => hch ▸ rchar c w)
  have hcb := charI_bd hch
  have HP := Lib.hid (fun (w1 : World) (hb : Below w.heap.size w w1) => rplain_any r w1 (hr.up hb) hl hs ht)
  have hO := plainC_ok her
  have hR := plainC_rows r.con
  have H := Lib.hid h
  obtain ⟨k, n, id, t, A, cc, rows⟩ := r
  generalize plainE (Reg.con ⟨k, n, id, t, A, cc, rows⟩) = er at *
  generalize plainC (Reg.con ⟨k, n, id, t, A, cc, rows⟩) = co at *
  have HO := Lib.hid hO
  have HF := Lib.hid (fun (w1 : World) (hb : Below w.heap.size w w1) => rgfind (h.up hb) c hll)
  subst her
  clear h hr hch hs hO
  go_enter Tryd.func28, Tryd.ntmps28
  go_wp2_with fail
  refine (HC.out _).mono ?_
  rintro e w' ⟨rfl, rfl⟩
  go_wp2_with fail
  refine (HP.out _ (below1 _ _)).mono ?_
  rintro e w1 ⟨⟨yk, yn, yi, yt, yA, yc, yr⟩, rfl, hy, hin, hfr, hb⟩
  have hb1 := up2 (up2 (below1 _ _) hb) (below1 w1 (.cells #[.int .i64 yk, .int .i64 yn, .int .i64 yi, .string yt, .slice yA yr.length yc] 56))
  go_wp2_with fail
  refine (HF.out _ hb1).mono ?_
  rintro e w2 ⟨rfl, hb2⟩
  rw [his]
  have hbw := up2 hb1 hb2
  have h2 := H.out.up hbw
  have u0 := hb2.cell (p := ⟨w1.heap.size, 0, none⟩) (by simp)
  have u1 := hb2.cell (p := ⟨w1.heap.size, 1, none⟩) (by simp)
  have u2 := hb2.cell (p := ⟨w1.heap.size, 2, none⟩) (by simp)
  have u3 := hb2.cell (p := ⟨w1.heap.size, 3, none⟩) (by simp)
  have u4 := hb2.cell (p := ⟨w1.heap.size, 4, none⟩) (by simp)
  simp at u0 u1 u2 u3 u4
  have hin2 : RegIn w2 ⟨yk, yn, yi, yt, yA, yc, yr⟩ := (hin.up (below1 _ _)).up hb2
  have hfr2 : ∀ g, regBlk ⟨yk, yn, yi, yt, yA, yc, yr⟩ g → w.heap.size ≤ g := fun g hg => by have := hfr.blk hg; simp at this; omega
  have hok2 := reg_ok hcb hy (Nat.le_trans hR hl) HO.out
  have hzz : w1.heap.size < w2.heap.size := by have := hb2.size; simp at this; omega
  obtain ⟨x, hi⟩ := isL_at his
  have hil := (List.getElem?_eq_some_iff.1 hi).1
  obtain ⟨g, cap, rfl, hc1, hc2, hBg, hgl, hfz, hcs⟩ := h2.own.lies eltQ (by omega)
  have hst := h2.store hi (y := ⟨yk, yn, yi, yt, yA, yc, yr⟩) hin2 (fun k hk => ⟨fun e => by have := hfr2 k hk; have := H.out.lt; omega, fun e => by have := hfr2 k hk; have := H.out.own.lt (g := g) rfl; omega⟩) hok2
  replace hst := hst.drew
  have c0 := h2.c0
  have q1 := hcs _ _ 1 _ hi rfl
  have q2 := hcs _ _ 2 _ hi rfl
  have q3 := hcs _ _ 3 _ hi rfl
  have q4 := hcs _ _ 4 _ hi rfl
  have q5 := hcs _ _ 5 _ hi rfl
  have z1 := hfz (ixL l c * 6 + 1) (by omega)
  have z2 := hfz (ixL l c * 6 + 2) (by omega)
  have z3 := hfz (ixL l c * 6 + 3) (by omega)
  have z4 := hfz (ixL l c * 6 + 4) (by omega)
  have z5 := hfz (ixL l c * 6 + 5) (by omega)
  have HS := Lib.hid hst
  have HB := Lib.hid hbw
  have HY := Lib.hid hy
  have HR2 := Lib.hid hfr2
  have HIS := Lib.hid his
  have hil' : (ixL l c : Int) < l.length := by omega
  have hgw := H.out.own.lt (g := g) rfl
  have hEQ : conM (l.set (ixL l c) (c, ⟨yk, yn, yi, yt, yA, yc, yr⟩)) = rput (conM l) c co := by
    have := rput_map Reg.con l c ⟨yk, yn, yi, yt, yA, yc, yr⟩
    rw [hy] at this
    unfold conM at *
    rw [← this]
    unfold rput; rw [if_pos his]
  have HE := Lib.hid hEQ
  generalize ixL l c = i at *
  clear hst hcs hfz h2 hbw hy hfr2 hfr hin hin2 hok2 hb hb1 hb2 hi his hEQ hBg hgl
  go_wp2_with fail
  go_region
  go_wp2_with fail
  go_ret
  exact ⟨_, _, rfl, HS.out, HE.out, (Only.of_below HB.out).trans ((((((((Only.refl _ _).setCell (p := ⟨g, i * 6 + 1, none⟩) (.inr rfl) _).setCell (p := ⟨g, i * 6 + 2, none⟩) (.inr rfl) _).setCell (p := ⟨g, i * 6 + 3, none⟩) (.inr rfl) _).setCell (p := ⟨g, i * 6 + 4, none⟩) (.inr rfl) _).setCell (p := ⟨g, i * 6 + 5, none⟩) (.inr rfl) _)).drew),
    fun g hg => foot_set hg fun h => .inr (HR2.out g h), fun g hg => .inl hg⟩
end
end Go.Proofs.YtmnmloebomlllaaDoor
