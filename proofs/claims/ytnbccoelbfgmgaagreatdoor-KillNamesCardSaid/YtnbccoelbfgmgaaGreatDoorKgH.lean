/- Registers: Set. -/
import Derived.Test.YtnbccoelbfgmgaaGreatDoorKgG
namespace Go.Proofs.YtnbccoelbfgmgaaGreatDoor
open Go.RowKit
set_option linter.unusedVariables false
set_option linter.unusedSimpArgs false
section
variable {w w' : World} {b bm N : Nat} {m : List (Int × Reg)}
def conM (m : List (Int × Reg)) : List (Int × Con) := m.map (fun p => (p.1, p.2.con))
theorem lookM_con (m : List (Int × Reg)) (k : Int) : lookM (conM m) k = (lookM m k).map Reg.con := by
  unfold lookM conM
  rw [List.find?_map, Option.map_map, Option.map_map]
  rfl
theorem putM_con (m : List (Int × Reg)) (k : Int) (y : Reg) : conM (putM m k y) = putM (conM m) k y.con := by
  unfold putM
  rw [lookM_con, Option.isSome_map]
  split
  · unfold conM
    rw [List.map_map, List.map_map]
    apply List.map_congr_left
    intro p _
    simp only [Function.comp_apply]
    split <;> rfl
  · simp [conM]
theorem delM_con (m : List (Int × Reg)) (k : Int) : conM (delM m k) = delM (conM m) k := by
  unfold delM conM
  rw [List.filter_map]
  rfl
/-- The block in which a register's rows lie. -/
def regBlk (r : Reg) (g : Nat) : Prop := 0 < r.rows.length ∧ ∃ o, r.A = some ⟨g, o, none⟩
def Foot (m : List (Int × Reg)) (g : Nat) : Prop := ∃ p ∈ m, regBlk p.2 g
/-- After a call that may change the registers. -/
def RgPost (w : World) (b bm : Nat) (m : List (Int × Reg)) (er : Int) (mc : List (Int × Con)) (e : Ending) (w' : World) : Prop :=
  ∃ m', e = .returned (.int .i64 er) ∧ RegsAt w' b bm m' ∧ conM m' = mc ∧ Only (· = bm) w w' ∧ ∀ g, Foot m' g → Foot m g ∨ w.heap.size ≤ g
theorem RegFresh.blk {B : Nat} {r : Reg} (h : RegFresh B r) {g : Nat} (hg : regBlk r g) : B ≤ g := by obtain ⟨hp, o, e⟩ := hg; exact h hp g o e
theorem RegsAt.mem_put {p : Int × Reg} {c : Int} {y : Reg} (hp : p ∈ putM m c y) : p ∈ m ∨ p = (c, y) := by
  unfold putM at hp
  split at hp
  · obtain ⟨q, hq, rfl⟩ := List.mem_map.1 hp
    by_cases e : (q.1 == c) = true
    · rw [if_pos e]; right; simp at e; rw [e]
    · rw [if_neg e]; exact .inl hq
  · rcases List.mem_append.1 hp with h | h
    · exact .inl h
    · right; simpa using h
theorem foot_put {c : Int} {y : Reg} {g N : Nat} (h : Foot (putM m c y) g) (hy : regBlk y g → Foot m g ∨ N ≤ g) : Foot m g ∨ N ≤ g := by
  obtain ⟨p, hp, hg⟩ := h
  rcases RegsAt.mem_put hp with h1 | rfl
  · exact .inl ⟨p, h1, hg⟩
  · exact hy hg
theorem foot_del {c : Int} {g : Nat} (h : Foot (delM m c) g) : Foot m g := by
  obtain ⟨p, hp, hg⟩ := h
  exact ⟨p, (List.mem_filter.1 hp).1, hg⟩
/-- A register is set. -/
theorem RegsAt.put {w1 w2 : World} (h : RegsAt w1 b bm m) (c : Int) (y : Reg) (hy : RegIn w1 y) (hok : RegOk (c, y)) (him : IM w2 bm regV (putM m c y)) (hgr : w1.grownBy w2 (some bm)) : RegsAt w2 b bm (putM m c y) := by
  have hne := h.ne
  have ho : Only (· = bm) w1 w2 := Only.of_grown hgr rfl
  refine ⟨(World.cell?_of_block (w := w1) (a := ⟨b, 0, none⟩) (ho.block b h.lt hne)).trans h.c0, him, fun p hp => ?_, fun p hp => ?_⟩
  · rcases RegsAt.mem_put hp with h1 | rfl
    · exact ⟨(h.regs p h1).i.only ho (fun hp g o e => RSl.apart h.im (h.regs p h1).i (fun x => by simp) hp e), (h.regs p h1).l, (h.regs p h1).m⟩
    · exact ⟨hy.i.only ho (fun hp g o e => RSl.apart h.im hy.i (fun x => by simp) hp e), hy.l, hy.m⟩
  · rcases RegsAt.mem_put hp with h1 | rfl
    · exact h.ok p h1
    · exact hok
theorem RegsAt.del {w1 w2 : World} (h : RegsAt w1 b bm m) (c : Int) (him : IM w2 bm regV (delM m c)) (hgr : w1.grownBy w2 (some bm)) : RegsAt w2 b bm (delM m c) := by
  have hne := h.ne
  have ho : Only (· = bm) w1 w2 := Only.of_grown hgr rfl
  have hm : ∀ p ∈ delM m c, p ∈ m := fun p hp => (List.mem_filter.1 hp).1
  exact ⟨(World.cell?_of_block (w := w1) (a := ⟨b, 0, none⟩) (ho.block b h.lt hne)).trans h.c0, him, fun p hp => ⟨(h.regs p (hm p hp)).i.only ho (fun hq g o e => RSl.apart h.im (h.regs p (hm p hp)).i (fun x => by simp) hq e), (h.regs p (hm p hp)).l, (h.regs p (hm p hp)).m⟩, fun p hp => h.ok p (hm p hp)⟩
def setE (c : Int) (x : Con) : Int := if charI c then plainE x else 2
def setM (mc : List (Int × Con)) (c : Int) (x : Con) : List (Int × Con) := if setE c x = 0 then putM mc c (plainC x) else mc
theorem charI_bd {c : Int} (h : charI c = true) : 0 ≤ c ∧ c ≤ 1114111 := by
  unfold charI at h; simp at h; exact ⟨h.1, h.2.1⟩
theorem plainC_ok {x : Con} (h : plainE x = 0) : (plainC x).kind = 2 → -2305843009213693952 ≤ (plainC x).n ∧ (plainC x).n ≤ 2305843009213693951 := by
  unfold plainC
  rw [if_pos h]
  intro hk
  by_cases h1 : x.kind = 1
  · rw [if_pos h1] at hk; exact absurd hk (by show ¬ ((1 : Int) = 2); decide)
  rw [if_neg h1] at hk ⊢
  by_cases h2 : x.kind = 2
  · rw [if_pos h2]
    unfold plainE at h
    rw [if_neg h1, if_pos h2] at h
    by_cases h3 : lowI ≤ x.n ∧ x.n ≤ highI
    · exact h3
    · rw [if_neg h3] at h; cases h
  rw [if_neg h2] at hk ⊢
  by_cases h3 : x.kind = 3
  · rw [if_pos h3] at hk; exact absurd hk (by show ¬ ((3 : Int) = 2); decide)
  rw [if_neg h3] at hk
  exact absurd hk (by show ¬ ((4 : Int) = 2); decide)
theorem plainC_rows (x : Con) : (plainC x).rows.length ≤ x.rows.length := by
  unfold plainC
  split
  · split
    · simp
    split
    · simp
    split
    · simp
    · simp
  · simp [zeroCn]
variable {r : Reg}
theorem reg_ok {c : Int} {y : Reg} {co : Con} (hcb : 0 ≤ c ∧ c ≤ 1114111) (hy : y.con = co) (hR : co.rows.length ≤ 1000000) (hO : co.kind = 2 → -2305843009213693952 ≤ co.n ∧ co.n ≤ 2305843009213693951) : RegOk (c, y) := by
  subst hy; exact ⟨hcb.1, hcb.2, hR, hO⟩
set_option maxRecDepth 100000 in
set_option maxHeartbeats 1000000 in
theorem kset_any (h : RegsAt w b bm m) (c : Int) (r : Reg) (hr : RSl encStr w r.A r.rows) (hl : r.rows.length ≤ 1000000) (hs : ∀ s ∈ r.rows, s.size ≤ 1000000000) (ht : r.text.size ≤ 1000000000) (hT : Tabs N w) (hN : N ≤ w.heap.size) :
    Calls Tryz.prog 15 #[.pointer (some ⟨b, 0, none⟩), .int .i64 c, regV r] w (RgPost w b bm m (setE c r.con) (setM (conM m) c r.con)) := by
  have HP := Lib.hid (fun (w1 : World) (hb : Below w.heap.size w w1) => kplain_any (N := N) r w1 (hr.up hb) hl hs ht (hT.up hb) (Nat.le_trans hN hb.size))
  have hO := plainC_ok (x := r.con)
  have hR := plainC_rows r.con
  unfold setM setE
  cases hch : charI c with
  | false =>
    have HC := Lib.hid (fun w => hch ▸ runesIs c w)
    have H := Lib.hid h
    obtain ⟨k, n, id, t, A, cc, rows⟩ := r
    clear h hr hT hch hO
    rw [if_neg (by decide), if_neg (by decide)]
    go_enter Tryz.func15, Tryz.ntmps15
    go_wp2_with fail
    refine (none_no (H.out.up (below1 _ _))).mono ?_
    rintro e w' ⟨rfl, rfl⟩
    go_wp2_with fail
    refine (HC.out _).mono ?_
    rintro e w' ⟨rfl, rfl⟩
    go_wp2_with fail
    go_ret
    exact ⟨m, rfl, H.out.up (below1 _ _), rfl, Only.of_below (below1 _ _), fun g hg => .inl hg⟩
  | true =>
    have hcb := charI_bd hch
    have HC := Lib.hid (fun w => hch ▸ runesIs c w)
    have H := Lib.hid h
    rw [if_pos rfl]
    obtain ⟨k, n, id, t, A, cc, rows⟩ := r
    generalize plainE (Reg.con ⟨k, n, id, t, A, cc, rows⟩) = er at *
    generalize plainC (Reg.con ⟨k, n, id, t, A, cc, rows⟩) = co at *
    clear h hr hT hch
    by_cases her : er = 0
    · subst her
      replace hO := hO rfl
      rw [if_pos rfl]
      have HO := Lib.hid hO
      clear hO
      go_enter Tryz.func15, Tryz.ntmps15
      go_wp2_with fail
      refine (none_no (H.out.up (below1 _ _))).mono ?_
      rintro e w' ⟨rfl, rfl⟩
      go_wp2_with fail
      refine (HC.out _).mono ?_
      rintro e w' ⟨rfl, rfl⟩
      go_wp2_with fail
      refine (HP.out _ (below1 _ _)).mono ?_
      rintro e w1 ⟨⟨yk, yn, yi, yt, yA, yc, yr⟩, rfl, hy, hin, hfr, hb⟩
      have hb1 := up2 (up2 (below1 _ _) hb) (below1 w1 (.cells #[.int .i64 yk, .int .i64 yn, .int .i64 yi, .string yt, .slice yA yr.length yc] 43))
      have h1 : RegsAt _ b bm m := H.out.up (hb1.drew)
      have hin1 : RegIn _ _ := hin.up ((below1 w1 (.cells #[.int .i64 yk, .int .i64 yn, .int .i64 yi, .string yt, .slice yA yr.length yc] 43)).drew)
      obtain ⟨w2, hrun, him, hgr, hsz⟩ := h1.im.store mapT keyT c ⟨yk, yn, yi, yt, yA, yc, yr⟩
      have c0 := h1.c0
      simp only [World.cell?_drew] at c0
      have HB := Lib.hid hb1
      have HF := Lib.hid (h1.put c ⟨yk, yn, yi, yt, yA, yc, yr⟩ hin1 (reg_ok hcb hy (Nat.le_trans hR hl) HO.out) him hgr)
      have HG := Lib.hid hgr
      have HY := Lib.hid hy
      have HFR := Lib.hid (show RegFresh w.heap.size ⟨yk, yn, yi, yt, yA, yc, yr⟩ from fun hp g o e => by have := hfr hp g o e; simp at this; omega)
      have hlt := h1.lt
      clear h1 hin hin1 hfr hb him hgr hy hb1 hsz
      go_wp2_with fail
      go_region
      go_wp2_with fail
      go_ret
      exact ⟨_, rfl, HF.out, by rw [putM_con, HY.out], (Only.of_below HB.out.drew).trans (Only.of_grown HG.out rfl), fun g hg => foot_put hg fun h => .inr (HFR.out.blk h)⟩
    · have h2 : (er == 0) = false := by simpa using her
      rw [if_neg her]
      clear her hO
      go_enter Tryz.func15, Tryz.ntmps15
      go_wp2_with fail
      refine (none_no (H.out.up (below1 _ _))).mono ?_
      rintro e w' ⟨rfl, rfl⟩
      go_wp2_with fail
      refine (HC.out _).mono ?_
      rintro e w' ⟨rfl, rfl⟩
      go_wp2_with fail
      refine (HP.out _ (below1 _ _)).mono ?_
      rintro e w1 ⟨⟨yk, yn, yi, yt, yA, yc, yr⟩, rfl, hy, hin, hfr, hb⟩
      have HB := Lib.hid (up2 (up2 (below1 _ _) hb) (below1 w1 (.cells #[.int .i64 yk, .int .i64 yn, .int .i64 yi, .string yt, .slice yA yr.length yc] 43)))
      clear hy hin hfr hb
      go_wp2_with fail
      go_ret
      exact ⟨m, rfl, H.out.up HB.out, rfl, Only.of_below HB.out, fun g hg => .inl hg⟩
def dropE (mc : List (Int × Con)) (c : Int) : Int := if (lookM mc c).isSome then 0 else 8
set_option maxRecDepth 100000 in
set_option maxHeartbeats 1000000 in
theorem kdrop_any (h : RegsAt w b bm m) (c : Int) :
    Calls Tryz.prog 18 #[.pointer (some ⟨b, 0, none⟩), .int .i64 c] w (RgPost w b bm m (dropE (conM m) c) (delM (conM m) c)) := by
  have HN := Lib.hid (none_no h)
  have c0 := h.c0
  have hlt := h.lt
  have H := Lib.hid h
  unfold dropE
  rw [lookM_con, ← delM_con]
  cases hx : lookM m c with
  | none =>
    have l1 := h.im.look_none mapT keyT hx true (zeroRg w)
    have hd : delM m c = m := length_del_none hx
    rw [hd]
    simp only [if_true, zeroG, regV, List.length_nil] at l1
    clear h hx hd
    simp only [Option.map_none, Option.isSome_none, Bool.false_eq_true, if_false]
    go_enter Tryz.func18, Tryz.ntmps18
    go_wp2_with fail
    refine HN.out.mono ?_
    rintro e w' ⟨rfl, rfl⟩
    go_wp2_with fail
    go_ret
    exact ⟨m, rfl, H.out.up (below1 _ _), rfl, Only.of_below (below1 _ _), fun g hg => .inl hg⟩
  | some x =>
    have l1 := h.im.look_some mapT keyT hx true
    obtain ⟨k, n, id, t, A, cc, rows⟩ := x
    have h1 : RegsAt (w.alloc (.cells #[.int .i64 k, .int .i64 n, .int .i64 id, .string t, .slice A rows.length cc] 43)) b bm m := h.up (below1 _ _)
    obtain ⟨w2, hrun, him, hgr, hsz⟩ := h1.im.drop mapT keyT c 0
    have HF := Lib.hid (h1.del c him hgr)
    have HG := Lib.hid hgr
    simp only [if_true, regV] at l1
    clear h hx
    simp only [Option.map_some, Option.isSome_some, if_true]
    clear h1 him hgr hsz
    go_enter Tryz.func18, Tryz.ntmps18
    go_wp2_with fail
    refine HN.out.mono ?_
    rintro e w' ⟨rfl, rfl⟩
    go_wp2_with fail
    go_ret
    exact ⟨_, rfl, HF.out, rfl, (Only.of_below (below1 _ _)).trans (Only.of_grown HG.out rfl), fun g hg => .inl (foot_del hg)⟩
end
end Go.Proofs.YtnbccoelbfgmgaaGreatDoor
