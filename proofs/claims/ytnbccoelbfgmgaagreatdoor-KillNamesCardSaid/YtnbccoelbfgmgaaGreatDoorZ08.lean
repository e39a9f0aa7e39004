import Derived.Test.YtnbccoelbfgmgaaGreatDoorZ02
import Derived.Test.YtnbccoelbfgmgaaGreatDoorZ01
import Derived.Test.YtnbccoelbfgmgaaGreatDoorZ07
/- package undo: a change as data; slices.Clone and slices.Reverse at changes. -/
namespace Go.Proofs.YtnbccoelbfgmgaaGreatDoor
open Go.RowKit Go.Lib
set_option linter.unusedVariables false
set_option linter.unusedSimpArgs false
/-- A change of a text. -/
structure Chg where
  k : Int
  a : Int
  b : Int
  id : Int
  nm : Int
  tx : ByteArray
  vk : Int
  vn : Int
  had : Bool
abbrev encCg (c : Chg) : List Value := [.int .i64 c.k, .int .i64 c.a, .int .i64 c.b, .int .i64 c.id, .int .i64 c.nm, .string c.tx, .int .i64 c.vk, .int .i64 c.vn, .bool c.had]
abbrev chgA (c : Chg) : Array Value := #[.int .i64 c.k, .int .i64 c.a, .int .i64 c.b, .int .i64 c.id, .int .i64 c.nm, .string c.tx, .int .i64 c.vk, .int .i64 c.vn, .bool c.had]
abbrev chgV (c : Chg) : Value := .agg (chgA c)
abbrev chg0 : Chg := ⟨0, 0, 0, 0, 0, ⟨#[]⟩, 0, 0, false⟩
theorem eltCg : Elt encCg 113 119 9 80 (chgV chg0) := ⟨Tryz.underlying113, by kernel_rfl, rfl, by omega, fun _ => rfl, fun x u hu => by simp at hu; rcases hu with rfl | rfl | rfl | rfl | rfl | rfl | rfl | rfl | rfl <;> rfl⟩
section
variable {w w' : World} {A : Option Addr} {zs : List Chg} {B : Nat} {v : Value}
set_option maxRecDepth 100000 in
set_option maxHeartbeats 1000000 in
theorem cloneCg (h : RSl encCg w A zs) (c : Nat) (hl : zs.length ≤ 1000000) : Calls Tryz.prog 118 #[.slice A zs.length c] w fun r w' => ∃ v, r = .returned v ∧ ROwn encCg 119 9 w.heap.size w' v zs ∧ Below w.heap.size w w' := by
  have h0 := ROwn.empty (enc := encCg) (E := 119) (k := 9) w.heap.size w (Nat.le_refl _)
  obtain ⟨v', w', happ, hown', hg, _⟩ := append_run eltCg h0 (by simp) (h.up (below1 _ _)) c (by simp; omega) (by omega)
  have HP := Lib.hid happ
  clear happ
  rcases A with _ | a
  · have hL : zs = [] := by
      rcases Nat.eq_zero_or_pos zs.length with h1 | h1
      · exact List.eq_nil_of_length_eq_zero h1
      · obtain ⟨g, o, e, _⟩ := h h1; cases e
    subst hL
    have hnil := fun w => Lib.run_eql_slice_nil (P := Tryz.prog) w 113 119 none 0 c 0 0 Tryz.underlying113
    go_enter Tryz.func118, Tryz.ntmps118
    go_wp2_with fail
    go_ret
    exact ⟨_, rfl, ROwn.nil _ _, Below.refl _ _⟩
  · have hnil := fun w => Lib.run_eql_slice_nil (P := Tryz.prog) w 113 119 (some a) zs.length c 0 0 Tryz.underlying113
    go_enter Tryz.func118, Tryz.ntmps118
    go_wp2_with (at_builtin; refine wpList_app_run rfl _ _ _ rfl rfl rfl HP.out ?_)
    go_ret
    exact ⟨_, rfl, by simpa using hown', (below1 _ _).grown hg (by simp) (fun k hk => h0.base hk)⟩
/-- The first i turned round with the last i. -/
def revI (zs : List Chg) (i : Nat) : List Chg := zs.mapIdx fun t c => if t < i ∨ zs.length - i ≤ t then zs.getD (zs.length - 1 - t) chg0 else c
theorem revI_len {zs : List Chg} {i : Nat} : (revI zs i).length = zs.length := by unfold revI; simp
theorem revI_get {zs : List Chg} {i t : Nat} (h : t < zs.length) : (revI zs i)[t]? = some (if t < i ∨ zs.length - i ≤ t then zs.getD (zs.length - 1 - t) chg0 else zs.getD t chg0) := by
  unfold revI
  rw [List.getElem?_mapIdx, List.getElem?_eq_getElem h]
  simp only [Option.map_some, List.getD_eq_getElem?_getD, List.getElem?_eq_getElem h, Option.getD_some]
theorem ext_get {xs ys : List Chg} (hl : xs.length = ys.length) (h : ∀ t, t < xs.length → xs[t]? = ys[t]?) : xs = ys := by
  apply List.ext_getElem?
  intro t
  rcases Nat.lt_or_ge t xs.length with h1 | h1
  · exact h t h1
  · rw [List.getElem?_eq_none h1, List.getElem?_eq_none (by omega)]
theorem getD_get {zs : List Chg} {t : Nat} (h : t < zs.length) : some (zs.getD t chg0) = zs[t]? := by
  rw [List.getD_eq_getElem?_getD, List.getElem?_eq_getElem h]; rfl
theorem revI_zero (zs : List Chg) : revI zs 0 = zs := by
  refine ext_get revI_len fun t ht => ?_
  rw [revI_len] at ht
  rw [revI_get ht, if_neg (by omega), getD_get ht]
theorem revI_end {zs : List Chg} {i : Nat} (h : ¬ 2 * i + 1 < zs.length) : revI zs i = zs.reverse := by
  refine ext_get (by rw [revI_len]; simp) fun t ht => ?_
  rw [revI_len] at ht
  rw [revI_get ht, List.getElem?_reverse ht]
  split
  · exact getD_get (by omega)
  · rw [show zs.length - 1 - t = t by omega, getD_get ht]
theorem revI_step {zs : List Chg} {i q : Nat} {x y : Chg} (h : 2 * i + 1 < zs.length) (hq : zs.length - 1 - i = q) (hx : (revI zs i)[i]? = some x) (hy : (revI zs i)[q]? = some y) : ((revI zs i).set i y).set q x = revI zs (i + 1) := by
  rw [revI_get (by omega), if_neg (by omega)] at hx hy
  refine ext_get (by simp [revI_len]) fun t ht => ?_
  simp only [List.length_set, revI_len] at ht
  rw [revI_get ht]
  by_cases h1 : t = q
  · subst h1
    rw [List.getElem?_set_self (by simp [revI_len]; omega), if_pos (by omega), ← hx, show zs.length - 1 - t = i by omega]
  · rw [List.getElem?_set_ne (fun e => h1 e.symm)]
    by_cases h2 : t = i
    · subst h2
      rw [List.getElem?_set_self (by simp [revI_len]; omega), if_pos (by omega), ← hy, hq]
    · rw [List.getElem?_set_ne (fun e => h2 e.symm), revI_get ht]
      by_cases h3 : t < i ∨ zs.length - i ≤ t
      · rw [if_pos h3, if_pos (by omega)]
      · rw [if_neg h3, if_neg (by omega)]
theorem ROwn.putN {g cap n : Nat} {xs : List Chg} {w : World} (hn : n = xs.length) (h : ROwn encCg 119 9 B w (.slice (some ⟨g, 0, none⟩) n cap) xs) {i j : Nat} {x y : Chg} {u : Value} (hi : xs[i]? = some x) (hj : j < 9) (he : encCg y = (encCg x).set j u) :
    ROwn encCg 119 9 B (w.setCell ⟨g, i * 9 + j, none⟩ u) (.slice (some ⟨g, 0, none⟩) n cap) (xs.set i y) := by
  subst hn; exact ROwn.put eltCg h hi hj he
theorem get_set {xs : List Chg} {i : Nat} {x y : Chg} (h : xs[i]? = some x) : (xs.set i y)[i]? = some y := List.getElem?_set_self (List.getElem?_eq_some_iff.1 h).1
/-- A whole element stored. -/
theorem ROwn.put9 {g cap n : Nat} {xs : List Chg} {w : World} (hn : n = xs.length) (h : ROwn encCg 119 9 B w (.slice (some ⟨g, 0, none⟩) n cap) xs) {i : Nat} {x : Chg} (hi : xs[i]? = some x) (k a b id nm : Int) (tx : ByteArray) (vk vn : Int) (had : Bool) :
    ROwn encCg 119 9 B (((((((((w.setCell ⟨g, i * 9, none⟩ (.int .i64 k)).setCell ⟨g, i * 9 + 1, none⟩ (.int .i64 a)).setCell ⟨g, i * 9 + 2, none⟩ (.int .i64 b)).setCell ⟨g, i * 9 + 3, none⟩ (.int .i64 id)).setCell ⟨g, i * 9 + 4, none⟩ (.int .i64 nm)).setCell ⟨g, i * 9 + 5, none⟩ (.string tx)).setCell ⟨g, i * 9 + 6, none⟩ (.int .i64 vk)).setCell ⟨g, i * 9 + 7, none⟩ (.int .i64 vn)).setCell ⟨g, i * 9 + 8, none⟩ (.bool had)) (.slice (some ⟨g, 0, none⟩) n cap) (xs.set i ⟨k, a, b, id, nm, tx, vk, vn, had⟩) := by
  obtain ⟨xk, xa, xb, xid, xnm, xtx, xvk, xvn, xhd⟩ := x
  have e0 := h.putN hn hi (j := 0) (y := ⟨k, xa, xb, xid, xnm, xtx, xvk, xvn, xhd⟩) (u := .int .i64 k) (by omega) rfl
  have e1 := e0.putN (by simpa using hn) (get_set hi) (j := 1) (y := ⟨k, a, xb, xid, xnm, xtx, xvk, xvn, xhd⟩) (u := .int .i64 a) (by omega) rfl
  rw [List.set_set] at e1
  have e2 := e1.putN (by simpa using hn) (get_set hi) (j := 2) (y := ⟨k, a, b, xid, xnm, xtx, xvk, xvn, xhd⟩) (u := .int .i64 b) (by omega) rfl
  rw [List.set_set] at e2
  have e3 := e2.putN (by simpa using hn) (get_set hi) (j := 3) (y := ⟨k, a, b, id, xnm, xtx, xvk, xvn, xhd⟩) (u := .int .i64 id) (by omega) rfl
  rw [List.set_set] at e3
  have e4 := e3.putN (by simpa using hn) (get_set hi) (j := 4) (y := ⟨k, a, b, id, nm, xtx, xvk, xvn, xhd⟩) (u := .int .i64 nm) (by omega) rfl
  rw [List.set_set] at e4
  have e5 := e4.putN (by simpa using hn) (get_set hi) (j := 5) (y := ⟨k, a, b, id, nm, tx, xvk, xvn, xhd⟩) (u := .string tx) (by omega) rfl
  rw [List.set_set] at e5
  have e6 := e5.putN (by simpa using hn) (get_set hi) (j := 6) (y := ⟨k, a, b, id, nm, tx, vk, xvn, xhd⟩) (u := .int .i64 vk) (by omega) rfl
  rw [List.set_set] at e6
  have e7 := e6.putN (by simpa using hn) (get_set hi) (j := 7) (y := ⟨k, a, b, id, nm, tx, vk, vn, xhd⟩) (u := .int .i64 vn) (by omega) rfl
  rw [List.set_set] at e7
  have e8 := e7.putN (by simpa using hn) (get_set hi) (j := 8) (y := ⟨k, a, b, id, nm, tx, vk, vn, had⟩) (u := .bool had) (by omega) rfl
  rw [List.set_set] at e8
  exact e8
theorem only9 {g o : Nat} {w : World} (v0 v1 v2 v3 v4 v5 v6 v7 v8 : Value) : Only (fun k => k = g) w (((((((((w.setCell ⟨g, o, none⟩ v0).setCell ⟨g, o + 1, none⟩ v1).setCell ⟨g, o + 2, none⟩ v2).setCell ⟨g, o + 3, none⟩ v3).setCell ⟨g, o + 4, none⟩ v4).setCell ⟨g, o + 5, none⟩ v5).setCell ⟨g, o + 6, none⟩ v6).setCell ⟨g, o + 7, none⟩ v7).setCell ⟨g, o + 8, none⟩ v8) :=
  ((((((((Only.setCell (S := fun k => k = g) (p := ⟨g, o, none⟩) (Only.refl _ w) rfl v0).setCell (p := ⟨g, o + 1, none⟩) rfl v1).setCell (p := ⟨g, o + 2, none⟩) rfl v2).setCell (p := ⟨g, o + 3, none⟩) rfl v3).setCell (p := ⟨g, o + 4, none⟩) rfl v4).setCell (p := ⟨g, o + 5, none⟩) rfl v5).setCell (p := ⟨g, o + 6, none⟩) rfl v6).setCell (p := ⟨g, o + 7, none⟩) rfl v7).setCell (p := ⟨g, o + 8, none⟩) rfl v8
set_option maxRecDepth 100000 in
set_option maxHeartbeats 2000000 in
theorem revCg (h : ROwn encCg 119 9 B w v zs) (hl : zs.length ≤ 1000000) : Calls Tryz.prog 119 #[v] w fun r w' => r = .returned (.tuple #[]) ∧ ROwn encCg 119 9 B w' v zs.reverse ∧ Only (fun k => v.ownBlock = some k) w w' := by
  obtain ⟨A, cap, rfl, h1, h2, h3⟩ := h.shape eltCg
  have H := Lib.hid h
  have s1 : IntKind.i64.wrap ((zs.length : Int) - 1) = (zs.length : Int) - 1 := IntWalk.i64_in _ (by omega)
  go_enter Tryz.func119, Tryz.ntmps119
  go_wp2_with fail
  go_loopw [2, 3] (fun va vb wr => ∃ i : Nat, 2 * i ≤ zs.length + 1 ∧ va = .int .i64 i ∧ vb = .int .i64 ((zs.length : Int) - 1 - i) ∧ ROwn encCg 119 9 B wr (.slice A zs.length cap) (revI zs i) ∧ Only (fun k => (Value.slice A zs.length cap).ownBlock = some k) w wr) (fun va _ _ => int2 va (.int .i64 zs.length))
  case atStart => exact ⟨0, by omega, rfl, by simp, by rw [revI_zero]; exact H.out, Only.refl _ _⟩
  case round =>
    obtain ⟨i, hi, rfl, rfl, hr, ho⟩ := hrel
    by_cases hlt : 2 * i + 1 < zs.length
    · have d1 : decide ((i : Int) < (zs.length : Int) - 1 - i) = true := decide_eq_true (by omega)
      have d2 : ((i : Int) < (zs.length : Int) - 1 - i) = True := eq_true (by omega)
      obtain ⟨g, cap', e, hc1, hc2, hB, hg, hfz, hcell⟩ := hr.lies eltCg (by rw [revI_len]; omega)
      rw [revI_len] at e hfz
      cases e
      obtain ⟨x, hx⟩ : ∃ x, (revI zs i)[i]? = some x := ⟨_, List.getElem?_eq_getElem (by rw [revI_len]; omega)⟩
      obtain ⟨y, hy⟩ : ∃ y, (revI zs i)[zs.length - 1 - i]? = some y := ⟨_, List.getElem?_eq_getElem (by rw [revI_len]; omega)⟩
      have hcx := fun j u => hcell i x j u hx
      have hcy := fun j u => hcell _ y j u hy
      obtain ⟨q, hq⟩ : ∃ q : Nat, zs.length - 1 - i = q := ⟨_, rfl⟩
      have hq2 : (zs.length : Int) - 1 - i = q := by omega
      rw [hq] at hcy hy
      rw [hq2] at d1 d2 ⊢
      have HS := Lib.hid (revI_step hlt hq hx hy)
      have HR := Lib.hid hr
      have HX := Lib.hid hx
      have HY := Lib.hid hy
      have HQ := Lib.hid (show q ≠ i by omega)
      have HO := Lib.hid ho
      have HL := Lib.hid (revI_len (zs := zs) (i := i))
      obtain ⟨n, hn⟩ : ∃ n, n = zs.length := ⟨_, rfl⟩
      have HNN := Lib.hid hn
      simp only [← hn] at *
      clear hn
      have hqn : q < n := by omega
      have hin : i < n := by omega
      have hqi : (q : Int) < n := by omega
      have hii : (i : Int) < n := by omega
      obtain ⟨xk, xa, xb, xid, xnm, xtx, xvk, xvn, xhd⟩ := x
      obtain ⟨yk, ya, yb, yid, ynm, ytx, yvk, yvn, yhd⟩ := y
      have x0 := hcx 0 _ rfl
      have x1 := hcx 1 _ rfl
      have x2 := hcx 2 _ rfl
      have x3 := hcx 3 _ rfl
      have x4 := hcx 4 _ rfl
      have x5 := hcx 5 _ rfl
      have x6 := hcx 6 _ rfl
      have x7 := hcx 7 _ rfl
      have x8 := hcx 8 _ rfl
      have y0 := hcy 0 _ rfl
      have y1 := hcy 1 _ rfl
      have y2 := hcy 2 _ rfl
      have y3 := hcy 3 _ rfl
      have y4 := hcy 4 _ rfl
      have y5 := hcy 5 _ rfl
      have y6 := hcy 6 _ rfl
      have y7 := hcy 7 _ rfl
      have y8 := hcy 8 _ rfl
      have hfx : ∀ j, j < 9 → wr.frozen? ⟨g, i * 9 + j, none⟩ = false := fun j hj => hfz _ (by omega)
      have hfy : ∀ j, j < 9 → wr.frozen? ⟨g, q * 9 + j, none⟩ = false := fun j hj => hfz _ (by omega)
      have fx0 := hfx 0 (by omega)
      have fx1 := hfx 1 (by omega)
      have fx2 := hfx 2 (by omega)
      have fx3 := hfx 3 (by omega)
      have fx4 := hfx 4 (by omega)
      have fx5 := hfx 5 (by omega)
      have fx6 := hfx 6 (by omega)
      have fx7 := hfx 7 (by omega)
      have fx8 := hfx 8 (by omega)
      have fy0 := hfy 0 (by omega)
      have fy1 := hfy 1 (by omega)
      have fy2 := hfy 2 (by omega)
      have fy3 := hfy 3 (by omega)
      have fy4 := hfy 4 (by omega)
      have fy5 := hfy 5 (by omega)
      have fy6 := hfy 6 (by omega)
      have fy7 := hfy 7 (by omega)
      have fy8 := hfy 8 (by omega)
      rw [Nat.add_zero] at x0 y0 fx0 fy0
      clear hcell hcx hcy hfx hfy hfz hx hy
      go_wp2_with fail
      go_region
      go_wp2_with fail
      go_roundw
      case rel =>
        refine ⟨i + 1, by omega, by first | rfl | go_num, by congr 1; omega, ?_, ?_⟩
        · have a1 := HR.out.put9 HL.out.symm HX.out yk ya yb yid ynm ytx yvk yvn yhd
          have a2 := a1.put9 (by rw [List.length_set]; exact HL.out.symm) (i := q) (by rw [List.getElem?_set_ne (fun e => HQ.out e.symm)]; exact HY.out) xk xa xb xid xnm xtx xvk xvn xhd
          rw [HS.out] at a2
          exact a2.up ((Below.refl _ _).drew)
        · exact (HO.out.trans (((only9 _ _ _ _ _ _ _ _ _).trans (only9 _ _ _ _ _ _ _ _ _)).mono (fun k hk => by subst hk; rfl))).drew
      case measure => simp [int2]; omega
    · have d1 : decide ((i : Int) < (zs.length : Int) - 1 - i) = false := decide_eq_false (by omega)
      have d2 : ((i : Int) < (zs.length : Int) - 1 - i) = False := eq_false (by omega)
      go_wp2_with fail
      go_end0
      exact ⟨rfl, by rw [← revI_end hlt]; exact hr, ho⟩
end
end Go.Proofs.YtnbccoelbfgmgaaGreatDoor
/- package undo: any change; Check, price. -/
namespace Go.Proofs.YtnbccoelbfgmgaaGreatDoor
open Go.RowKit Go.Lib
set_option linter.unusedVariables false
set_option linter.unusedSimpArgs false
/-- What a change costs. -/
def priceC (c : Chg) : Nat := if c.k = 2 then 1 + (chrs c.tx).length else 1
/-- Changes that Check lets pass. -/
structure ChgOk (c : Chg) : Prop where
  k : c.k = 1 ∨ c.k = 2 ∨ c.k = 3 ∨ c.k = 4 ∨ c.k = 5 ∨ c.k = 6
  a : c.k ≠ 6 → 1 ≤ c.a ∧ c.a ≤ 1099511627776
  b : c.k = 1 ∨ c.k = 5 → c.a ≤ c.b ∧ c.b ≤ 1099511627776
  nm : c.k = 5 → 0 ≤ c.nm
  tx : c.k = 2 → (charsD c.tx.data.toList).isSome = true ∧ c.tx.size ≤ 1000000
section
variable {w w' : World} {N l : Nat}
set_option maxHeartbeats 1000000 in
theorem gprice {c : Chg} (h : ChgOk c) (hT : Tabs N w) : Calls Tryz.prog 164 #[chgV c] w fun e w' => e = .returned (.int .i64 (priceC c)) ∧ Below w.heap.size w w' := by
  unfold priceC
  obtain ⟨k, a, b, id, nm, tx, vk, vn, had⟩ := c
  by_cases hk : k = 2
  · subst hk
    obtain ⟨hv, hs⟩ := h.tx rfl
    have hL := fun w (hT : Tabs N w) => runesLen tx w (by dsimp only at hs; omega) hT
    dsimp only at hv hs
    rw [rlenG_chars hv] at hL
    have hn := chrs_len tx
    rw [if_pos rfl]
    have hB := below1 w (.cells (chgA ⟨2, a, b, id, nm, tx, vk, vn, had⟩) 119)
    have HL := Lib.hid (hL _ (hT.up hB))
    have HBB := Lib.hid hB
    have s1 : IntKind.i64.wrap (1 + ((chrs tx).length : Int)) = ((1 + (chrs tx).length : Nat) : Int) := by rw [IntWalk.i64_in _ (by omega)]; omega
    generalize (chrs tx).length = n at *
    clear hL hn hB h hT hv hs
    go_enter Tryz.func164, Tryz.ntmps164
    go_wp2_with fail
    refine HL.out.mono ?_
    rintro e w1 ⟨rfl, hb1⟩
    go_wp2_with fail
    go_ret
    exact ⟨by first | rfl | (dsimp only; go_num), up2 HBB.out hb1⟩
  · rw [if_neg hk]
    have d0 : ((k : Int) == 2) = false := by simpa using hk
    have n0 : (k = 2) = False := eq_false hk
    clear h hT hk
    go_enter Tryz.func164, Tryz.ntmps164
    go_wp2_with fail
    go_ret
    exact ⟨rfl, below1 w _⟩
set_option maxHeartbeats 2000000 in
theorem gcheck1 (a b id nm : Int) (tx : ByteArray) (vk vn : Int) (had : Bool) (h : ChgOk ⟨1, a, b, id, nm, tx, vk, vn, had⟩) (hT : Tabs N w) (hR : Rules N w) : Calls Tryz.prog 243 #[chgV ⟨1, a, b, id, nm, tx, vk, vn, had⟩] w fun e w' => e = .returned (.int .i64 0) ∧ Below w.heap.size w w' := by
  obtain ⟨a1, a2⟩ := h.a (by simp)
  dsimp only at a1 a2
  have d1 : decide (a < 1) = false := decide_eq_false (by omega)
  have d2 : decide ((1099511627776 : Int) < a) = false := decide_eq_false (by omega)
  have n1 : (a < 1) = False := eq_false (by omega)
  obtain ⟨b1, b2⟩ := h.b (by simp)
  dsimp only at b1 b2
  have d3 : decide (b < a) = false := decide_eq_false (by omega)
  have d4 : decide ((1099511627776 : Int) < b) = false := decide_eq_false (by omega)
  have bb := below1 w (.cells (chgA ⟨1, a, b, id, nm, tx, vk, vn, had⟩) 119)
  have q0 : _ = some (Value.bool true) := (hR.up bb).2 4 (by omega)
  have q1 : _ = some (Value.bool true) := (hR.up bb).2 5 (by omega)
  have q2 : _ = some (Value.bool false) := (hR.up bb).2 6 (by omega)
  have q3 : _ = some (Value.bool false) := (hR.up bb).2 7 (by omega)
  clear h hT hR bb a1 a2 b1 b2
  go_enter Tryz.func243, Tryz.ntmps243
  go_wp2_with fail
  all_goals (go_ret; exact ⟨rfl, (below1 w _).alloc (by simp) _⟩)
set_option maxHeartbeats 2000000 in
theorem gcheck2 (a b id nm : Int) (tx : ByteArray) (vk vn : Int) (had : Bool) (h : ChgOk ⟨2, a, b, id, nm, tx, vk, vn, had⟩) (hT : Tabs N w) (hR : Rules N w) : Calls Tryz.prog 243 #[chgV ⟨2, a, b, id, nm, tx, vk, vn, had⟩] w fun e w' => e = .returned (.int .i64 0) ∧ Below w.heap.size w w' := by
  obtain ⟨a1, a2⟩ := h.a (by simp)
  dsimp only at a1 a2
  have d1 : decide (a < 1) = false := decide_eq_false (by omega)
  have d2 : decide ((1099511627776 : Int) < a) = false := decide_eq_false (by omega)
  have n1 : (a < 1) = False := eq_false (by omega)
  have bb := below1 w (.cells (chgA ⟨2, a, b, id, nm, tx, vk, vn, had⟩) 119)
  have q0 : _ = some (Value.bool true) := (hR.up bb).2 8 (by omega)
  have q1 : _ = some (Value.bool false) := (hR.up bb).2 9 (by omega)
  have q2 : _ = some (Value.bool false) := (hR.up bb).2 10 (by omega)
  have q3 : _ = some (Value.bool true) := (hR.up bb).2 11 (by omega)
  obtain ⟨hv, hs⟩ := h.tx rfl
  have hvl : vld tx = true := by rw [vld_chars]; exact hv
  dsimp only at hs
  have HV := Lib.hid (fun w (hT : Tabs N w) => (hvl ▸ valid_any tx w (by omega) hT : Calls Tryz.prog 37 #[.string tx] w fun e w' => e = .returned (.bool true) ∧ Below w.heap.size w w'))
  have HT := Lib.hid hT
  have BB := Lib.hid bb
  clear hv hvl hs
  clear h hT hR bb a1 a2
  go_enter Tryz.func243, Tryz.ntmps243
  go_wp2_with fail
  refine (HV.out _ (HT.out.up (up2 BB.out (below1 _ _)))).mono ?_
  rintro e w2 ⟨rfl, hb2⟩
  go_wp2_with fail
  go_ret
  exact ⟨rfl, up2 (up2 BB.out (below1 _ _)) hb2⟩
set_option maxHeartbeats 2000000 in
theorem gcheck3 (a b id nm : Int) (tx : ByteArray) (vk vn : Int) (had : Bool) (h : ChgOk ⟨3, a, b, id, nm, tx, vk, vn, had⟩) (hT : Tabs N w) (hR : Rules N w) : Calls Tryz.prog 243 #[chgV ⟨3, a, b, id, nm, tx, vk, vn, had⟩] w fun e w' => e = .returned (.int .i64 0) ∧ Below w.heap.size w w' := by
  obtain ⟨a1, a2⟩ := h.a (by simp)
  dsimp only at a1 a2
  have d1 : decide (a < 1) = false := decide_eq_false (by omega)
  have d2 : decide ((1099511627776 : Int) < a) = false := decide_eq_false (by omega)
  have n1 : (a < 1) = False := eq_false (by omega)
  have bb := below1 w (.cells (chgA ⟨3, a, b, id, nm, tx, vk, vn, had⟩) 119)
  have q0 : _ = some (Value.bool true) := (hR.up bb).2 12 (by omega)
  have q1 : _ = some (Value.bool false) := (hR.up bb).2 13 (by omega)
  have q2 : _ = some (Value.bool false) := (hR.up bb).2 14 (by omega)
  have q3 : _ = some (Value.bool false) := (hR.up bb).2 15 (by omega)
  clear h hT hR bb a1 a2
  go_enter Tryz.func243, Tryz.ntmps243
  go_wp2_with fail
  all_goals (go_ret; exact ⟨rfl, (below1 w _).alloc (by simp) _⟩)
set_option maxHeartbeats 2000000 in
theorem gcheck4 (a b id nm : Int) (tx : ByteArray) (vk vn : Int) (had : Bool) (h : ChgOk ⟨4, a, b, id, nm, tx, vk, vn, had⟩) (hT : Tabs N w) (hR : Rules N w) : Calls Tryz.prog 243 #[chgV ⟨4, a, b, id, nm, tx, vk, vn, had⟩] w fun e w' => e = .returned (.int .i64 0) ∧ Below w.heap.size w w' := by
  obtain ⟨a1, a2⟩ := h.a (by simp)
  dsimp only at a1 a2
  have d1 : decide (a < 1) = false := decide_eq_false (by omega)
  have d2 : decide ((1099511627776 : Int) < a) = false := decide_eq_false (by omega)
  have n1 : (a < 1) = False := eq_false (by omega)
  have bb := below1 w (.cells (chgA ⟨4, a, b, id, nm, tx, vk, vn, had⟩) 119)
  have q0 : _ = some (Value.bool true) := (hR.up bb).2 16 (by omega)
  have q1 : _ = some (Value.bool false) := (hR.up bb).2 17 (by omega)
  have q2 : _ = some (Value.bool false) := (hR.up bb).2 18 (by omega)
  have q3 : _ = some (Value.bool false) := (hR.up bb).2 19 (by omega)
  clear h hT hR bb a1 a2
  go_enter Tryz.func243, Tryz.ntmps243
  go_wp2_with fail
  all_goals (go_ret; exact ⟨rfl, (below1 w _).alloc (by simp) _⟩)
set_option maxHeartbeats 2000000 in
theorem gcheck5 (a b id nm : Int) (tx : ByteArray) (vk vn : Int) (had : Bool) (h : ChgOk ⟨5, a, b, id, nm, tx, vk, vn, had⟩) (hT : Tabs N w) (hR : Rules N w) : Calls Tryz.prog 243 #[chgV ⟨5, a, b, id, nm, tx, vk, vn, had⟩] w fun e w' => e = .returned (.int .i64 0) ∧ Below w.heap.size w w' := by
  obtain ⟨a1, a2⟩ := h.a (by simp)
  dsimp only at a1 a2
  have d1 : decide (a < 1) = false := decide_eq_false (by omega)
  have d2 : decide ((1099511627776 : Int) < a) = false := decide_eq_false (by omega)
  have n1 : (a < 1) = False := eq_false (by omega)
  obtain ⟨b1, b2⟩ := h.b (by simp)
  dsimp only at b1 b2
  have d3 : decide (b < a) = false := decide_eq_false (by omega)
  have d4 : decide ((1099511627776 : Int) < b) = false := decide_eq_false (by omega)
  have c1 := h.nm rfl
  dsimp only at c1
  have d5 : decide (nm < 0) = false := decide_eq_false (by omega)
  have bb := below1 w (.cells (chgA ⟨5, a, b, id, nm, tx, vk, vn, had⟩) 119)
  have q0 : _ = some (Value.bool true) := (hR.up bb).2 20 (by omega)
  have q1 : _ = some (Value.bool true) := (hR.up bb).2 21 (by omega)
  have q2 : _ = some (Value.bool true) := (hR.up bb).2 22 (by omega)
  have q3 : _ = some (Value.bool false) := (hR.up bb).2 23 (by omega)
  clear h hT hR bb a1 a2 b1 b2 c1
  go_enter Tryz.func243, Tryz.ntmps243
  go_wp2_with fail
  all_goals (go_ret; exact ⟨rfl, (below1 w _).alloc (by simp) _⟩)
set_option maxHeartbeats 2000000 in
theorem gcheck6 (a b id nm : Int) (tx : ByteArray) (vk vn : Int) (had : Bool) (h : ChgOk ⟨6, a, b, id, nm, tx, vk, vn, had⟩) (hT : Tabs N w) (hR : Rules N w) : Calls Tryz.prog 243 #[chgV ⟨6, a, b, id, nm, tx, vk, vn, had⟩] w fun e w' => e = .returned (.int .i64 0) ∧ Below w.heap.size w w' := by
  have bb := below1 w (.cells (chgA ⟨6, a, b, id, nm, tx, vk, vn, had⟩) 119)
  have q0 : _ = some (Value.bool false) := (hR.up bb).2 24 (by omega)
  have q1 : _ = some (Value.bool false) := (hR.up bb).2 25 (by omega)
  have q2 : _ = some (Value.bool false) := (hR.up bb).2 26 (by omega)
  have q3 : _ = some (Value.bool false) := (hR.up bb).2 27 (by omega)
  clear h hT hR bb
  go_enter Tryz.func243, Tryz.ntmps243
  go_wp2_with fail
  all_goals (go_ret; exact ⟨rfl, (below1 w _).alloc (by simp) _⟩)
theorem gcheck {c : Chg} (h : ChgOk c) (hT : Tabs N w) (hR : Rules N w) : Calls Tryz.prog 243 #[chgV c] w fun e w' => e = .returned (.int .i64 0) ∧ Below w.heap.size w w' := by
  obtain ⟨k, a, b, id, nm, tx, vk, vn, had⟩ := c
  rcases h.k with hk | hk | hk | hk | hk | hk <;> dsimp only at hk <;> subst hk
  · exact gcheck1 a b id nm tx vk vn had h hT hR
  · exact gcheck2 a b id nm tx vk vn had h hT hR
  · exact gcheck3 a b id nm tx vk vn had h hT hR
  · exact gcheck4 a b id nm tx vk vn had h hT hR
  · exact gcheck5 a b id nm tx vk vn had h hT hR
  · exact gcheck6 a b id nm tx vk vn had h hT hR
end
end Go.Proofs.YtnbccoelbfgmgaaGreatDoor
