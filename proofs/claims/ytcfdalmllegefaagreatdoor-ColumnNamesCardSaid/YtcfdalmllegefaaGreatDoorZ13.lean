import Derived.Test.YtcfdalmllegefaaGreatDoorZ12
import Derived.Test.YtcfdalmllegefaaGreatDoorZ08
/- package undo: any change; Check, price. -/
namespace Go.Proofs.YtcfdalmllegefaaGreatDoor
open Go.RowKit Go.Lib
set_option linter.unusedVariables false
set_option linter.unusedSimpArgs false
/-- What a change costs. -/
def priceC (c : Chg) : Nat := if c.k = 2 then 1 + (chrs c.tx).length else 1
/-- Changes that Check lets pass. -/
structure ChgOk (c : Chg) : Prop where
  k : c.k = 1 ∨ c.k = 2 ∨ c.k = 3 ∨ c.k = 4 ∨ c.k = 5 ∨ c.k = 6
  a : c.k ≠ 6 → 1 ≤ c.a ∧ c.a ≤ 1099511627776
  b : c.k = 1 ∨ c.k = 5 → c.a ≤ c.b ∧ c.b ≤ 1099511627776
  nm : c.k = 5 → 0 ≤ c.nm
  tx : c.k = 2 → (charsD c.tx.data.toList).isSome = true ∧ c.tx.size ≤ 1000000
section
variable {w w' : World} {N l : Nat}
set_option maxHeartbeats 1000000 in
theorem gprice {c : Chg} (h : ChgOk c) (hT : Tabs N w) : Calls Tryz.prog 255 #[chgV c] w fun e w' => e = .returned (.int .i64 (priceC c)) ∧ Below w.heap.size w w' := by
  unfold priceC
  obtain ⟨k, a, b, id, nm, tx, vk, vn, had⟩ := c
  by_cases hk : k = 2
  · subst hk
    obtain ⟨hv, hs⟩ := h.tx rfl
    have hL := fun w (hT : Tabs N w) => runesLen tx w (by dsimp only at hs; omega) hT
    dsimp only at hv hs
    rw [rlenG_chars hv] at hL
    have hn := chrs_len tx
    rw [if_pos rfl]
    have hB := below1 w (.cells (chgA ⟨2, a, b, id, nm, tx, vk, vn, had⟩) 239)
    have HL := Lib.hid (hL _ (hT.up hB))
    have HBB := Lib.hid hB
    have s1 : IntKind.i64.wrap (1 + ((chrs tx).length : Int)) = ((1 + (chrs tx).length : Nat) : Int) := by rw [IntWalk.i64_in _ (by omega)]; omega
    generalize (chrs tx).length = n at *
    clear hL hn hB h hT hv hs
    go_enter Tryz.func255, Tryz.ntmps255
    go_wp2_with fail
    refine HL.out.mono ?_
    rintro e w1 ⟨rfl, hb1⟩
    go_wp2_with fail
    go_ret
    exact ⟨by first | rfl | (dsimp only; go_num), up2 HBB.out hb1⟩
  · rw [if_neg hk]
    have d0 : ((k : Int) == 2) = false := by simpa using hk
    have n0 : (k = 2) = False := eq_false hk
    clear h hT hk
    go_enter Tryz.func255, Tryz.ntmps255
    go_wp2_with fail
    go_ret
    exact ⟨rfl, below1 w _⟩
set_option maxHeartbeats 2000000 in
theorem gcheck1 (a b id nm : Int) (tx : ByteArray) (vk vn : Int) (had : Bool) (h : ChgOk ⟨1, a, b, id, nm, tx, vk, vn, had⟩) (hT : Tabs N w) (hR : Rules N w) : Calls Tryz.prog 321 #[chgV ⟨1, a, b, id, nm, tx, vk, vn, had⟩] w fun e w' => e = .returned (.int .i64 0) ∧ Below w.heap.size w w' := by
  obtain ⟨a1, a2⟩ := h.a (by simp)
  dsimp only at a1 a2
  have d1 : decide (a < 1) = false := decide_eq_false (by omega)
  have d2 : decide ((1099511627776 : Int) < a) = false := decide_eq_false (by omega)
  have n1 : (a < 1) = False := eq_false (by omega)
  obtain ⟨b1, b2⟩ := h.b (by simp)
  dsimp only at b1 b2
  have d3 : decide (b < a) = false := decide_eq_false (by omega)
  have d4 : decide ((1099511627776 : Int) < b) = false := decide_eq_false (by omega)
  have bb := below1 w (.cells (chgA ⟨1, a, b, id, nm, tx, vk, vn, had⟩) 239)
  have q0 : _ = some (Value.bool true) := (hR.up bb).2 4 (by omega)
  have q1 : _ = some (Value.bool true) := (hR.up bb).2 5 (by omega)
  have q2 : _ = some (Value.bool false) := (hR.up bb).2 6 (by omega)
  have q3 : _ = some (Value.bool false) := (hR.up bb).2 7 (by omega)
  clear h hT hR bb a1 a2 b1 b2
  go_enter Tryz.func321, Tryz.ntmps321
  go_wp2_with fail
  all_goals (go_ret; exact ⟨rfl, (below1 w _).alloc (by simp) _⟩)
set_option maxHeartbeats 2000000 in
theorem gcheck2 (a b id nm : Int) (tx : ByteArray) (vk vn : Int) (had : Bool) (h : ChgOk ⟨2, a, b, id, nm, tx, vk, vn, had⟩) (hT : Tabs N w) (hR : Rules N w) : Calls Tryz.prog 321 #[chgV ⟨2, a, b, id, nm, tx, vk, vn, had⟩] w fun e w' => e = .returned (.int .i64 0) ∧ Below w.heap.size w w' := by
  obtain ⟨a1, a2⟩ := h.a (by simp)
  dsimp only at a1 a2
  have d1 : decide (a < 1) = false := decide_eq_false (by omega)
  have d2 : decide ((1099511627776 : Int) < a) = false := decide_eq_false (by omega)
  have n1 : (a < 1) = False := eq_false (by omega)
  have bb := below1 w (.cells (chgA ⟨2, a, b, id, nm, tx, vk, vn, had⟩) 239)
  have q0 : _ = some (Value.bool true) := (hR.up bb).2 8 (by omega)
  have q1 : _ = some (Value.bool false) := (hR.up bb).2 9 (by omega)
  have q2 : _ = some (Value.bool false) := (hR.up bb).2 10 (by omega)
  have q3 : _ = some (Value.bool true) := (hR.up bb).2 11 (by omega)
  obtain ⟨hv, hs⟩ := h.tx rfl
  have hvl : vld tx = true := by rw [vld_chars]; exact hv
  dsimp only at hs
  have HV := Lib.hid (fun w (hT : Tabs N w) => (hvl ▸ valid_any tx w (by omega) hT : Calls Tryz.prog 46 #[.string tx] w fun e w' => e = .returned (.bool true) ∧ Below w.heap.size w w'))
  have HT := Lib.hid hT
  have BB := Lib.hid bb
  clear hv hvl hs
  clear h hT hR bb a1 a2
  go_enter Tryz.func321, Tryz.ntmps321
  go_wp2_with fail
  refine (HV.out _ (HT.out.up (up2 BB.out (below1 _ _)))).mono ?_
  rintro e w2 ⟨rfl, hb2⟩
  go_wp2_with fail
  go_ret
  exact ⟨rfl, up2 (up2 BB.out (below1 _ _)) hb2⟩
set_option maxHeartbeats 2000000 in
theorem gcheck3 (a b id nm : Int) (tx : ByteArray) (vk vn : Int) (had : Bool) (h : ChgOk ⟨3, a, b, id, nm, tx, vk, vn, had⟩) (hT : Tabs N w) (hR : Rules N w) : Calls Tryz.prog 321 #[chgV ⟨3, a, b, id, nm, tx, vk, vn, had⟩] w fun e w' => e = .returned (.int .i64 0) ∧ Below w.heap.size w w' := by
  obtain ⟨a1, a2⟩ := h.a (by simp)
  dsimp only at a1 a2
  have d1 : decide (a < 1) = false := decide_eq_false (by omega)
  have d2 : decide ((1099511627776 : Int) < a) = false := decide_eq_false (by omega)
  have n1 : (a < 1) = False := eq_false (by omega)
  have bb := below1 w (.cells (chgA ⟨3, a, b, id, nm, tx, vk, vn, had⟩) 239)
  have q0 : _ = some (Value.bool true) := (hR.up bb).2 12 (by omega)
  have q1 : _ = some (Value.bool false) := (hR.up bb).2 13 (by omega)
  have q2 : _ = some (Value.bool false) := (hR.up bb).2 14 (by omega)
  have q3 : _ = some (Value.bool false) := (hR.up bb).2 15 (by omega)
  clear h hT hR bb a1 a2
  go_enter Tryz.func321, Tryz.ntmps321
  go_wp2_with fail
  all_goals (go_ret; exact ⟨rfl, (below1 w _).alloc (by simp) _⟩)
set_option maxHeartbeats 2000000 in
theorem gcheck4 (a b id nm : Int) (tx : ByteArray) (vk vn : Int) (had : Bool) (h : ChgOk ⟨4, a, b, id, nm, tx, vk, vn, had⟩) (hT : Tabs N w) (hR : Rules N w) : Calls Tryz.prog 321 #[chgV ⟨4, a, b, id, nm, tx, vk, vn, had⟩] w fun e w' => e = .returned (.int .i64 0) ∧ Below w.heap.size w w' := by
  obtain ⟨a1, a2⟩ := h.a (by simp)
  dsimp only at a1 a2
  have d1 : decide (a < 1) = false := decide_eq_false (by omega)
  have d2 : decide ((1099511627776 : Int) < a) = false := decide_eq_false (by omega)
  have n1 : (a < 1) = False := eq_false (by omega)
  have bb := below1 w (.cells (chgA ⟨4, a, b, id, nm, tx, vk, vn, had⟩) 239)
  have q0 : _ = some (Value.bool true) := (hR.up bb).2 16 (by omega)
  have q1 : _ = some (Value.bool false) := (hR.up bb).2 17 (by omega)
  have q2 : _ = some (Value.bool false) := (hR.up bb).2 18 (by omega)
  have q3 : _ = some (Value.bool false) := (hR.up bb).2 19 (by omega)
  clear h hT hR bb a1 a2
  go_enter Tryz.func321, Tryz.ntmps321
  go_wp2_with fail
  all_goals (go_ret; exact ⟨rfl, (below1 w _).alloc (by simp) _⟩)
set_option maxHeartbeats 2000000 in
theorem gcheck5 (a b id nm : Int) (tx : ByteArray) (vk vn : Int) (had : Bool) (h : ChgOk ⟨5, a, b, id, nm, tx, vk, vn, had⟩) (hT : Tabs N w) (hR : Rules N w) : Calls Tryz.prog 321 #[chgV ⟨5, a, b, id, nm, tx, vk, vn, had⟩] w fun e w' => e = .returned (.int .i64 0) ∧ Below w.heap.size w w' := by
  obtain ⟨a1, a2⟩ := h.a (by simp)
  dsimp only at a1 a2
  have d1 : decide (a < 1) = false := decide_eq_false (by omega)
  have d2 : decide ((1099511627776 : Int) < a) = false := decide_eq_false (by omega)
  have n1 : (a < 1) = False := eq_false (by omega)
  obtain ⟨b1, b2⟩ := h.b (by simp)
  dsimp only at b1 b2
  have d3 : decide (b < a) = false := decide_eq_false (by omega)
  have d4 : decide ((1099511627776 : Int) < b) = false := decide_eq_false (by omega)
  have c1 := h.nm rfl
  dsimp only at c1
  have d5 : decide (nm < 0) = false := decide_eq_false (by omega)
  have bb := below1 w (.cells (chgA ⟨5, a, b, id, nm, tx, vk, vn, had⟩) 239)
  have q0 : _ = some (Value.bool true) := (hR.up bb).2 20 (by omega)
  have q1 : _ = some (Value.bool true) := (hR.up bb).2 21 (by omega)
  have q2 : _ = some (Value.bool true) := (hR.up bb).2 22 (by omega)
  have q3 : _ = some (Value.bool false) := (hR.up bb).2 23 (by omega)
  clear h hT hR bb a1 a2 b1 b2 c1
  go_enter Tryz.func321, Tryz.ntmps321
  go_wp2_with fail
  all_goals (go_ret; exact ⟨rfl, (below1 w _).alloc (by simp) _⟩)
set_option maxHeartbeats 2000000 in
theorem gcheck6 (a b id nm : Int) (tx : ByteArray) (vk vn : Int) (had : Bool) (h : ChgOk ⟨6, a, b, id, nm, tx, vk, vn, had⟩) (hT : Tabs N w) (hR : Rules N w) : Calls Tryz.prog 321 #[chgV ⟨6, a, b, id, nm, tx, vk, vn, had⟩] w fun e w' => e = .returned (.int .i64 0) ∧ Below w.heap.size w w' := by
  have bb := below1 w (.cells (chgA ⟨6, a, b, id, nm, tx, vk, vn, had⟩) 239)
  have q0 : _ = some (Value.bool false) := (hR.up bb).2 24 (by omega)
  have q1 : _ = some (Value.bool false) := (hR.up bb).2 25 (by omega)
  have q2 : _ = some (Value.bool false) := (hR.up bb).2 26 (by omega)
  have q3 : _ = some (Value.bool false) := (hR.up bb).2 27 (by omega)
  clear h hT hR bb
  go_enter Tryz.func321, Tryz.ntmps321
  go_wp2_with fail
  all_goals (go_ret; exact ⟨rfl, (below1 w _).alloc (by simp) _⟩)
theorem gcheck {c : Chg} (h : ChgOk c) (hT : Tabs N w) (hR : Rules N w) : Calls Tryz.prog 321 #[chgV c] w fun e w' => e = .returned (.int .i64 0) ∧ Below w.heap.size w w' := by
  obtain ⟨k, a, b, id, nm, tx, vk, vn, had⟩ := c
  rcases h.k with hk | hk | hk | hk | hk | hk <;> dsimp only at hk <;> subst hk
  · exact gcheck1 a b id nm tx vk vn had h hT hR
  · exact gcheck2 a b id nm tx vk vn had h hT hR
  · exact gcheck3 a b id nm tx vk vn had h hT hR
  · exact gcheck4 a b id nm tx vk vn had h hT hR
  · exact gcheck5 a b id nm tx vk vn had h hT hR
  · exact gcheck6 a b id nm tx vk vn had h hT hR
end
end Go.Proofs.YtcfdalmllegefaaGreatDoor
/- package undo: Add, any log: the change is appended, or goes into the last one. -/
namespace Go.Proofs.YtcfdalmllegefaaGreatDoor
open Go.RowKit Go.Lib
set_option linter.unusedVariables false
set_option linter.unusedSimpArgs false
abbrev logC (gv ov : Value) (ch co nw : Int) : Array Value := #[.int .i64 1048576, gv, ov, .int .i64 ch, .int .i64 co, .int .i64 nw]
section
variable {w w' : World} {N l : Nat} {gv ov : Value} {ch co nw : Int} {O : List Chg}
theorem gnoneL (h : Blk w l 197 (logC gv ov ch co nw)) : Calls Tryz.prog 181 #[.pointer (some ⟨l, 0, none⟩)] w fun e w' => e = .returned (.bool false) ∧ w = w' := by
  have c0 := h.cell (j := 0) rfl
  clear h
  go_enter Tryz.func181, Tryz.ntmps181
  go_wp2_with fail
  go_ret
  exact ⟨rfl, rfl⟩
/-- What Add turns. -/
def AddP (w : World) (l : Nat) (gv ov : Value) (ch co nw : Int) (O : List Chg) (w' : World) : Prop :=
  ∃ v', ROwn encCg 239 9 0 w' v' O ∧ Blk w' l 197 (logC gv v' ch co nw) ∧ Only (fun k => k = l ∨ ov.ownBlock = some k) w w' ∧ ∀ k, v'.ownBlock = some k → ov.ownBlock = some k ∨ w.heap.size ≤ k
set_option maxRecDepth 100000 in
set_option maxHeartbeats 4000000 in
theorem gadd_nil {c : Chg} (hok : ChgOk c) (hT : Tabs N w) (hR : Rules N w) (h : Blk w l 197 (logC gv (.slice none 0 0) ch co nw)) (h0 : 0 ≤ nw) (h1 : nw + priceC c ≤ 1048576) (h2 : 0 ≤ co) (h3 : co ≤ 100000000) :
    Calls Tryz.prog 272 #[.pointer (some ⟨l, 0, none⟩), chgV c] w fun e w' => e = .returned (.int .i64 0) ∧ AddP w l gv (.slice none 0 0) ch (co + priceC c) (nw + priceC c) ([c]) w' := by
  have hv : ROwn encCg 239 9 0 w (.slice none 0 0) [] := ROwn.nil _ _
  have hbx := below1 w (.cells (chgA c) 239)
  have hbk := Blk.made w 239 (chgA c)
  have hl0 := h.lt
  have hck := fun (w' : World) (hb : Below w.heap.size w w') => gcheck hok (hT.up hb) (hR.up hb)
  have hpr := fun (w' : World) (hb : Below w.heap.size w w') => gprice hok (hT.up hb)
  obtain ⟨P, hP⟩ : ∃ P : Nat, P = priceC c := ⟨_, rfl⟩
  rw [← hP] at h1 hpr ⊢
  have s1 : IntKind.i64.wrap (nw + (P : Int)) = nw + P := IntWalk.i64_in _ (by omega)
  have s2 : IntKind.i64.wrap (co + (P : Int)) = co + P := IntWalk.i64_in _ (by omega)
  have d1 : decide ((1048576 : Int) < nw + P) = false := decide_eq_false (by omega)
  have HPR := Lib.hid hpr
  have H := Lib.hid (h.up hbx)
  have HV := Lib.hid (hv.up hbx)
  have HBX := Lib.hid hbx
  have HBK := Lib.hid hbk
  have HCK := Lib.hid hck
  obtain ⟨k, a, b, id, nm, tx, vk, vn, had⟩ := c
  clear h hv hbk hck hok hT hR hpr h0 h1 h2 h3 hP
  have hWl : Below w.heap.size w (w.alloc (.cells (chgA ⟨k, a, b, id, nm, tx, vk, vn, had⟩) 239)) := hbx
  clear hbx hWl
  go_enter Tryz.func272, Tryz.ntmps272
  go_wp2_with fail
  generalize w.alloc (.cells (chgA ⟨k, a, b, id, nm, tx, vk, vn, had⟩) 239) = W at *
  refine (gnoneL H.out).mono ?_
  rintro e w' ⟨rfl, rfl⟩
  have b0 := HBK.out.cell (j := 0) rfl
  have b1 := HBK.out.cell (j := 1) rfl
  have b2 := HBK.out.cell (j := 2) rfl
  have b3 := HBK.out.cell (j := 3) rfl
  have b4 := HBK.out.cell (j := 4) rfl
  have b5 := HBK.out.cell (j := 5) rfl
  have b6 := HBK.out.cell (j := 6) rfl
  have b7 := HBK.out.cell (j := 7) rfl
  have b8 := HBK.out.cell (j := 8) rfl
  go_wp2_with fail
  refine (HCK.out W HBX.out).mono ?_
  rintro e w1 ⟨rfl, hb1⟩
  have H1 := Lib.hid (H.out.up hb1)
  have HV1 := Lib.hid (HV.out.up hb1)
  have HBX1 := Lib.hid (up2 HBX.out hb1)
  have HBK1 := Lib.hid (HBK.out.up hb1)
  clear b0 b1 b2 b3 b4 b5 b6 b7 b8 hb1 H HV HBX HBK HCK
  have b0 := HBK1.out.cell (j := 0) rfl
  have b1 := HBK1.out.cell (j := 1) rfl
  have b2 := HBK1.out.cell (j := 2) rfl
  have b3 := HBK1.out.cell (j := 3) rfl
  have b4 := HBK1.out.cell (j := 4) rfl
  have b5 := HBK1.out.cell (j := 5) rfl
  have b6 := HBK1.out.cell (j := 6) rfl
  have b7 := HBK1.out.cell (j := 7) rfl
  have b8 := HBK1.out.cell (j := 8) rfl
  have l2 := H1.out.cell (j := 2) rfl
  go_wp2_with fail
  go_region
  go_wp2_with fail
  refine (HPR.out w1.drew (HBX1.out.drew)).mono ?_
  rintro e w2 ⟨rfl, hb2⟩
  have hb2' : Below w1.heap.size w1 w2 := up2 ((Below.refl _ w1).drew) hb2
  have H2 := Lib.hid (H1.out.up hb2')
  have HV2 := Lib.hid (HV1.out.up hb2')
  have HBX2 := Lib.hid (up2 HBX1.out hb2')
  have HBK2 := Lib.hid (HBK1.out.up hb2')
  clear b0 b1 b2 b3 b4 b5 b6 b7 b8 hb2 hb2' H1 HV1 HBX1 HBK1 HPR l2
  have l5 := H2.out.cell (j := 5) rfl
  go_wp2_with fail
  obtain ⟨VV, hVV⟩ : ∃ VV : Value, VV = (.slice none 0 0) := ⟨_, rfl⟩
  have hVB : ∀ k, VV.ownBlock = some k → k ≠ l ∧ k < w.heap.size := by
    intro k hk
    subst hVV
    simp [Value.ownBlock] at hk
    skip
  obtain ⟨v', w3, happ, hown3, hb3, ho3, hblk3⟩ := append_elem eltCg (B := 0) (w := w2.drew) (hVV ▸ (HV2.out.up ((Below.refl _ w2).drew)) : ROwn encCg 239 9 0 w2.drew VV []) (Nat.zero_le _) ⟨k, a, b, id, nm, tx, vk, vn, had⟩ (by simp) (by omega)
  have HP := Lib.hid happ
  have HO3 : Hid (Only (fun k => VV.ownBlock = some k) w2 w3) := Lib.hid (((Only.refl _ w2).drew).trans ho3)
  have hon : Only (fun k => VV.ownBlock = some k) w w3 := (Only.of_below HBX2.out).trans HO3.out
  have HON := Lib.hid hon
  have hk3 : Blk w3 l 197 _ := H2.out.only HO3.out (fun hk => (hVB l hk).1 rfl)
  have HK3 := Lib.hid hk3
  have HB3 : Hid (∀ k, v'.ownBlock = some k → k ≠ l ∧ (VV.ownBlock = some k ∨ w.heap.size ≤ k)) := Lib.hid (fun k hk => by
    have hs2 : w.heap.size ≤ w2.heap.size := HBX2.out.size
    rcases hblk3 with e | ⟨g3, e, hg3⟩
    · rw [e] at hk; exact ⟨(hVB k hk).1, .inl hk⟩
    · rw [e] at hk; cases hk; exact ⟨by have : w2.drew.heap.size ≤ k := hg3; have : w2.drew.heap.size = w2.heap.size := rfl; omega, .inr (by have : w2.drew.heap.size ≤ k := hg3; have : w2.drew.heap.size = w2.heap.size := rfl; omega)⟩)
  have C2 : ∀ x : OnW (fun k => VV.ownBlock = some k) w2, x.w.cell? ⟨l, 2, none⟩ = some (.slice none 0 0) := fun x => (H2.out.only x.on (fun hk => (hVB l hk).1 rfl)).cell (j := 2) rfl
  have CB : ∀ x : OnW (fun k => VV.ownBlock = some k) w2, Blk x.w w.heap.size 239 _ := fun x => HBK2.out.only x.on (fun hk => by have := (hVB _ hk).2; omega)
  have b0 := fun x => (CB x).cell (j := 0) rfl
  have b1 := fun x => (CB x).cell (j := 1) rfl
  have b2 := fun x => (CB x).cell (j := 2) rfl
  have b3 := fun x => (CB x).cell (j := 3) rfl
  have b4 := fun x => (CB x).cell (j := 4) rfl
  have b5 := fun x => (CB x).cell (j := 5) rfl
  have b6 := fun x => (CB x).cell (j := 6) rfl
  have b7 := fun x => (CB x).cell (j := 7) rfl
  have b8 := fun x => (CB x).cell (j := 8) rfl
  clear CB happ ho3 hon hk3 hb3 hblk3
  refine wp_region_mixO (fun k => VV.ownBlock = some k) 10 (.one [0, 1, 2, 3, 4, 5] 6 (.one [] 7 (.done [8, 9]))) (by kernel_rfl) (fun c d v a w h => by cases d <;> exact h) (by kernel_rfl) ?_
  simp only [wpMixT, pk_nil, pk_cons, pushAt_zero, pushAt_succ, List.drop_succ_cons, List.drop_zero]
  repeat (go_big_quiet_step (fail))
  refine wpQuiet_nil ?_
  clear b0 b1 b2 b3 b4 b5 b6 b7 b8
  have HVV := Lib.hid hVV
  subst hVV
  clear HVV
  go_wp2_with fail
  refine thenQ_normal ⟨⟨⟨_, (Only.refl _ w2).drew.alloc _⟩, rfl⟩, ?_⟩
  refine wpQuiet_nil ?_
  refine wpList_app_run rfl _ _ _ rfl rfl rfl HP.out ?_
  go_wp2_with fail
  refine thenQ_normal ⟨⟨⟨_, HO3.out⟩, rfl⟩, ?_⟩
  repeat (go_big_quiet_step (fail))
  refine wpQuiet_nil ?_
  clear C2
  have HOW := Lib.hid hown3
  obtain ⟨A', cap', hv'q, _, _, _⟩ := hown3.shape eltCg
  have hll : ([] ++ [(⟨k, a, b, id, nm, tx, vk, vn, had⟩ : Chg)]).length = 1 := by simp
  rw [hll] at hv'q
  subst hv'q
  clear hown3 hll
  have f2 := HK3.out.fz 2
  have k2 := HK3.out.cell (j := 2) rfl
  have hsw : w.heap.size ≤ w3.heap.size := HON.out.size
  have hk4 := HK3.out.set (j := 2) (by simp) (.slice A' 1 cap')
  have HW4 := Lib.hid (HOW.out.kept (w' := w3.setCell ⟨l, 2, none⟩ (.slice A' 1 cap')) (fun g hg => Below.heap_setCell _ _ _ _ (HB3.out g hg).1))
  have HO4 := Lib.hid ((HON.out.mono (T := fun k => k = l ∨ (Value.slice none 0 0).ownBlock = some k) (fun k hk => .inr hk)).setCell (p := ⟨l, 2, none⟩) (.inl rfl) (.slice A' 1 cap'))
  have HK4 := Lib.hid hk4
  clear hk4
  go_wp2_with fail
  generalize w3.setCell ⟨l, 2, none⟩ (.slice A' 1 cap') = w4 at *
  have m4 := HK4.out.cell (j := 4) rfl
  have m5 := HK4.out.cell (j := 5) rfl
  have f4 := HK4.out.fz 4
  have f5 := HK4.out.fz 5
  go_region
  go_wp2_with fail
  go_ret
  have hk6 := (HK4.out.set (j := 4) (by simp) (.int .i64 (co + P))).set (j := 5) (by simp) (.int .i64 (nw + P))
  refine ⟨rfl, _, ?_, hk6, ((HO4.out.setCell (p := ⟨l, 4, none⟩) (.inl rfl) (.int .i64 (co + P))).setCell (p := ⟨l, 5, none⟩) (.inl rfl) (.int .i64 (nw + P))).drew, fun k hk => (HB3.out k hk).2⟩
  exact HW4.out.kept (fun g hg => by
    have h1 := (HB3.out g hg).1
    exact (Below.heap_setCell (w4.setCell ⟨l, 4, none⟩ (.int .i64 (co + P))) ⟨l, 5, none⟩ (.int .i64 (nw + P)) g h1).trans (Below.heap_setCell w4 ⟨l, 4, none⟩ (.int .i64 (co + P)) g h1))
set_option maxRecDepth 100000 in
set_option maxHeartbeats 4000000 in
theorem gadd_n1 {c : Chg} {x : Chg} {K : Nat} (hv : ROwn encCg 239 9 0 w ov O) (hx : O[K]? = some x) (hK : O.length = K + 1) (hOl : O.length ≤ 1000000) (hsep : ∀ k, ov.ownBlock = some k → k ≠ l) (hc : c.k ≠ 1) (hok : ChgOk c) (hT : Tabs N w) (hR : Rules N w) (h : Blk w l 197 (logC gv (ov) ch co nw)) (h0 : 0 ≤ nw) (h1 : nw + priceC c ≤ 1048576) (h2 : 0 ≤ co) (h3 : co ≤ 100000000) :
    Calls Tryz.prog 272 #[.pointer (some ⟨l, 0, none⟩), chgV c] w fun e w' => e = .returned (.int .i64 0) ∧ AddP w l gv (ov) ch (co + priceC c) (nw + priceC c) (O ++ [c]) w' := by
  have hwf : ∀ k, ov.ownBlock = some k → k < w.heap.size := fun k hk => hv.lt hk
  obtain ⟨g, cap, rfl, hcap1, hcap2, hgB, hgl, hfz, hat⟩ := hv.lies eltCg (by omega)
  have hgl2 : g ≠ l := hsep g rfl
  have hlk : w.cell? ⟨g, K * 9, none⟩ = some (.int .i64 x.k) := hat K x 0 _ hx rfl
  have hlb : w.cell? ⟨g, K * 9 + 2, none⟩ = some (.int .i64 x.b) := hat K x 2 _ hx rfl
  clear hat
  have hbx := below1 w (.cells (chgA c) 239)
  have hbk := Blk.made w 239 (chgA c)
  have hl0 := h.lt
  have hck := fun (w' : World) (hb : Below w.heap.size w w') => gcheck hok (hT.up hb) (hR.up hb)
  have hpr := fun (w' : World) (hb : Below w.heap.size w w') => gprice hok (hT.up hb)
  obtain ⟨P, hP⟩ : ∃ P : Nat, P = priceC c := ⟨_, rfl⟩
  rw [← hP] at h1 hpr ⊢
  have s1 : IntKind.i64.wrap (nw + (P : Int)) = nw + P := IntWalk.i64_in _ (by omega)
  have s2 : IntKind.i64.wrap (co + (P : Int)) = co + P := IntWalk.i64_in _ (by omega)
  have d1 : decide ((1048576 : Int) < nw + P) = false := decide_eq_false (by omega)
  have HPR := Lib.hid hpr
  have s3 : IntKind.i64.wrap ((O.length : Int) - 1) = (K : Int) := by rw [IntWalk.i64_in _ (by omega)]; omega
  have hKl : K < O.length := by omega
  have d0 : decide ((0 : Int) ≤ (K : Int)) = true := decide_eq_true (by omega)
  have H := Lib.hid (h.up hbx)
  have HV := Lib.hid (hv.up hbx)
  have HBX := Lib.hid hbx
  have HBK := Lib.hid hbk
  have HCK := Lib.hid hck
  obtain ⟨k, a, b, id, nm, tx, vk, vn, had⟩ := c
  dsimp only at hc
  have e1 : ((k : Int) == 1) = false := by simpa using hc
  have e2 : (k = 1) = False := eq_false hc
  clear h hv hbk hck hok hT hR hpr h0 h1 h2 h3 hP hwf hcap1 hgB
  clear hc
  have HLK := Lib.hid (⟨hlk, hlb, hx, hK, hfz, hcap2, hOl, hgl⟩ : _ ∧ _ ∧ _ ∧ _ ∧ _ ∧ _ ∧ _ ∧ _)
  clear hlk hlb hx hK hfz hcap2 hOl hsep
  have hWl : Below w.heap.size w (w.alloc (.cells (chgA ⟨k, a, b, id, nm, tx, vk, vn, had⟩) 239)) := hbx
  clear hbx hWl
  go_enter Tryz.func272, Tryz.ntmps272
  go_wp2_with fail
  generalize w.alloc (.cells (chgA ⟨k, a, b, id, nm, tx, vk, vn, had⟩) 239) = W at *
  refine (gnoneL H.out).mono ?_
  rintro e w' ⟨rfl, rfl⟩
  have b0 := HBK.out.cell (j := 0) rfl
  have b1 := HBK.out.cell (j := 1) rfl
  have b2 := HBK.out.cell (j := 2) rfl
  have b3 := HBK.out.cell (j := 3) rfl
  have b4 := HBK.out.cell (j := 4) rfl
  have b5 := HBK.out.cell (j := 5) rfl
  have b6 := HBK.out.cell (j := 6) rfl
  have b7 := HBK.out.cell (j := 7) rfl
  have b8 := HBK.out.cell (j := 8) rfl
  go_wp2_with fail
  refine (HCK.out W HBX.out).mono ?_
  rintro e w1 ⟨rfl, hb1⟩
  have H1 := Lib.hid (H.out.up hb1)
  have HV1 := Lib.hid (HV.out.up hb1)
  have HBX1 := Lib.hid (up2 HBX.out hb1)
  have HBK1 := Lib.hid (HBK.out.up hb1)
  clear b0 b1 b2 b3 b4 b5 b6 b7 b8 hb1 H HV HBX HBK HCK
  have b0 := HBK1.out.cell (j := 0) rfl
  have b1 := HBK1.out.cell (j := 1) rfl
  have b2 := HBK1.out.cell (j := 2) rfl
  have b3 := HBK1.out.cell (j := 3) rfl
  have b4 := HBK1.out.cell (j := 4) rfl
  have b5 := HBK1.out.cell (j := 5) rfl
  have b6 := HBK1.out.cell (j := 6) rfl
  have b7 := HBK1.out.cell (j := 7) rfl
  have b8 := HBK1.out.cell (j := 8) rfl
  have l2 := H1.out.cell (j := 2) rfl
  have hlk : w1.cell? ⟨g, K * 9, none⟩ = _ := (World.cell?_of_block (w := w) (a := ⟨g, K * 9, none⟩) (HBX1.out.block g hgl)).trans HLK.out.1
  have hlb : w1.cell? ⟨g, K * 9 + 2, none⟩ = _ := (World.cell?_of_block (w := w) (a := ⟨g, K * 9 + 2, none⟩) (HBX1.out.block g hgl)).trans HLK.out.2.1
  go_wp2_with fail
  go_region
  go_wp2_with fail
  refine (HPR.out w1.drew (HBX1.out.drew)).mono ?_
  rintro e w2 ⟨rfl, hb2⟩
  have hb2' : Below w1.heap.size w1 w2 := up2 ((Below.refl _ w1).drew) hb2
  have H2 := Lib.hid (H1.out.up hb2')
  have HV2 := Lib.hid (HV1.out.up hb2')
  have HBX2 := Lib.hid (up2 HBX1.out hb2')
  have HBK2 := Lib.hid (HBK1.out.up hb2')
  clear b0 b1 b2 b3 b4 b5 b6 b7 b8 hb2 hb2' H1 HV1 HBX1 HBK1 HPR l2 hlk hlb
  have l5 := H2.out.cell (j := 5) rfl
  go_wp2_with fail
  obtain ⟨VV, hVV⟩ : ∃ VV : Value, VV = (.slice (some ⟨g, 0, none⟩) O.length cap) := ⟨_, rfl⟩
  have hVB : ∀ k, VV.ownBlock = some k → k ≠ l ∧ k < w.heap.size := by
    intro k hk
    subst hVV
    simp [Value.ownBlock] at hk
    exact hk ▸ ⟨hgl2, hgl⟩
  obtain ⟨v', w3, happ, hown3, hb3, ho3, hblk3⟩ := append_elem eltCg (B := 0) (w := w2.drew) (hVV ▸ (HV2.out.up ((Below.refl _ w2).drew)) : ROwn encCg 239 9 0 w2.drew VV O) (Nat.zero_le _) ⟨k, a, b, id, nm, tx, vk, vn, had⟩ (by have := HLK.out; omega) (by omega)
  have HP := Lib.hid happ
  have HO3 : Hid (Only (fun k => VV.ownBlock = some k) w2 w3) := Lib.hid (((Only.refl _ w2).drew).trans ho3)
  have hon : Only (fun k => VV.ownBlock = some k) w w3 := (Only.of_below HBX2.out).trans HO3.out
  have HON := Lib.hid hon
  have hk3 : Blk w3 l 197 _ := H2.out.only HO3.out (fun hk => (hVB l hk).1 rfl)
  have HK3 := Lib.hid hk3
  have HB3 : Hid (∀ k, v'.ownBlock = some k → k ≠ l ∧ (VV.ownBlock = some k ∨ w.heap.size ≤ k)) := Lib.hid (fun k hk => by
    have hs2 : w.heap.size ≤ w2.heap.size := HBX2.out.size
    rcases hblk3 with e | ⟨g3, e, hg3⟩
    · rw [e] at hk; exact ⟨(hVB k hk).1, .inl hk⟩
    · rw [e] at hk; cases hk; exact ⟨by have : w2.drew.heap.size ≤ k := hg3; have : w2.drew.heap.size = w2.heap.size := rfl; omega, .inr (by have : w2.drew.heap.size ≤ k := hg3; have : w2.drew.heap.size = w2.heap.size := rfl; omega)⟩)
  have C2 : ∀ x : OnW (fun k => VV.ownBlock = some k) w2, x.w.cell? ⟨l, 2, none⟩ = some (.slice (some ⟨g, 0, none⟩) O.length cap) := fun x => (H2.out.only x.on (fun hk => (hVB l hk).1 rfl)).cell (j := 2) rfl
  have CB : ∀ x : OnW (fun k => VV.ownBlock = some k) w2, Blk x.w w.heap.size 239 _ := fun x => HBK2.out.only x.on (fun hk => by have := (hVB _ hk).2; omega)
  have b0 := fun x => (CB x).cell (j := 0) rfl
  have b1 := fun x => (CB x).cell (j := 1) rfl
  have b2 := fun x => (CB x).cell (j := 2) rfl
  have b3 := fun x => (CB x).cell (j := 3) rfl
  have b4 := fun x => (CB x).cell (j := 4) rfl
  have b5 := fun x => (CB x).cell (j := 5) rfl
  have b6 := fun x => (CB x).cell (j := 6) rfl
  have b7 := fun x => (CB x).cell (j := 7) rfl
  have b8 := fun x => (CB x).cell (j := 8) rfl
  clear CB happ ho3 hon hk3 hb3 hblk3
  refine wp_region_mixO (fun k => VV.ownBlock = some k) 10 (.one [0, 1, 2, 3, 4, 5] 6 (.one [] 7 (.done [8, 9]))) (by kernel_rfl) (fun c d v a w h => by cases d <;> exact h) (by kernel_rfl) ?_
  simp only [wpMixT, pk_nil, pk_cons, pushAt_zero, pushAt_succ, List.drop_succ_cons, List.drop_zero]
  repeat (go_big_quiet_step (fail))
  refine wpQuiet_nil ?_
  clear b0 b1 b2 b3 b4 b5 b6 b7 b8
  have HVV := Lib.hid hVV
  subst hVV
  clear HVV
  go_wp2_with fail
  refine thenQ_normal ⟨⟨⟨_, (Only.refl _ w2).drew.alloc _⟩, rfl⟩, ?_⟩
  refine wpQuiet_nil ?_
  refine wpList_app_run rfl _ _ _ rfl rfl rfl HP.out ?_
  go_wp2_with fail
  refine thenQ_normal ⟨⟨⟨_, HO3.out⟩, rfl⟩, ?_⟩
  repeat (go_big_quiet_step (fail))
  refine wpQuiet_nil ?_
  clear C2
  have HOW := Lib.hid hown3
  obtain ⟨A', cap', hv'q, _, _, _⟩ := hown3.shape eltCg
  have hll : (O ++ [(⟨k, a, b, id, nm, tx, vk, vn, had⟩ : Chg)]).length = (O.length + 1) := by simp
  rw [hll] at hv'q
  subst hv'q
  clear hown3 hll
  have f2 := HK3.out.fz 2
  have k2 := HK3.out.cell (j := 2) rfl
  have hsw : w.heap.size ≤ w3.heap.size := HON.out.size
  have hk4 := HK3.out.set (j := 2) (by simp) (.slice A' (O.length + 1) cap')
  have HW4 := Lib.hid (HOW.out.kept (w' := w3.setCell ⟨l, 2, none⟩ (.slice A' (O.length + 1) cap')) (fun g hg => Below.heap_setCell _ _ _ _ (HB3.out g hg).1))
  have HO4 := Lib.hid ((HON.out.mono (T := fun k => k = l ∨ (Value.slice (some ⟨g, 0, none⟩) O.length cap).ownBlock = some k) (fun k hk => .inr hk)).setCell (p := ⟨l, 2, none⟩) (.inl rfl) (.slice A' (O.length + 1) cap'))
  have HK4 := Lib.hid hk4
  clear hk4
  go_wp2_with fail
  generalize w3.setCell ⟨l, 2, none⟩ (.slice A' (O.length + 1) cap') = w4 at *
  have m4 := HK4.out.cell (j := 4) rfl
  have m5 := HK4.out.cell (j := 5) rfl
  have f4 := HK4.out.fz 4
  have f5 := HK4.out.fz 5
  go_region
  go_wp2_with fail
  go_ret
  have hk6 := (HK4.out.set (j := 4) (by simp) (.int .i64 (co + P))).set (j := 5) (by simp) (.int .i64 (nw + P))
  refine ⟨rfl, _, ?_, hk6, ((HO4.out.setCell (p := ⟨l, 4, none⟩) (.inl rfl) (.int .i64 (co + P))).setCell (p := ⟨l, 5, none⟩) (.inl rfl) (.int .i64 (nw + P))).drew, fun k hk => (HB3.out k hk).2⟩
  exact HW4.out.kept (fun g hg => by
    have h1 := (HB3.out g hg).1
    exact (Below.heap_setCell (w4.setCell ⟨l, 4, none⟩ (.int .i64 (co + P))) ⟨l, 5, none⟩ (.int .i64 (nw + P)) g h1).trans (Below.heap_setCell w4 ⟨l, 4, none⟩ (.int .i64 (co + P)) g h1))
set_option maxRecDepth 100000 in
set_option maxHeartbeats 4000000 in
theorem gadd_n2 {c : Chg} {x : Chg} {K : Nat} (hv : ROwn encCg 239 9 0 w ov O) (hx : O[K]? = some x) (hK : O.length = K + 1) (hOl : O.length ≤ 1000000) (hsep : ∀ k, ov.ownBlock = some k → k ≠ l) (hc : c.k = 1 ∧ x.k ≠ 1) (hok : ChgOk c) (hT : Tabs N w) (hR : Rules N w) (h : Blk w l 197 (logC gv (ov) ch co nw)) (h0 : 0 ≤ nw) (h1 : nw + priceC c ≤ 1048576) (h2 : 0 ≤ co) (h3 : co ≤ 100000000) :
    Calls Tryz.prog 272 #[.pointer (some ⟨l, 0, none⟩), chgV c] w fun e w' => e = .returned (.int .i64 0) ∧ AddP w l gv (ov) ch (co + priceC c) (nw + priceC c) (O ++ [c]) w' := by
  have hwf : ∀ k, ov.ownBlock = some k → k < w.heap.size := fun k hk => hv.lt hk
  obtain ⟨g, cap, rfl, hcap1, hcap2, hgB, hgl, hfz, hat⟩ := hv.lies eltCg (by omega)
  have hgl2 : g ≠ l := hsep g rfl
  have hlk : w.cell? ⟨g, K * 9, none⟩ = some (.int .i64 x.k) := hat K x 0 _ hx rfl
  have hlb : w.cell? ⟨g, K * 9 + 2, none⟩ = some (.int .i64 x.b) := hat K x 2 _ hx rfl
  clear hat
  have hbx := below1 w (.cells (chgA c) 239)
  have hbk := Blk.made w 239 (chgA c)
  have hl0 := h.lt
  have hck := fun (w' : World) (hb : Below w.heap.size w w') => gcheck hok (hT.up hb) (hR.up hb)
  have hpr := fun (w' : World) (hb : Below w.heap.size w w') => gprice hok (hT.up hb)
  obtain ⟨P, hP⟩ : ∃ P : Nat, P = priceC c := ⟨_, rfl⟩
  rw [← hP] at h1 hpr ⊢
  have s1 : IntKind.i64.wrap (nw + (P : Int)) = nw + P := IntWalk.i64_in _ (by omega)
  have s2 : IntKind.i64.wrap (co + (P : Int)) = co + P := IntWalk.i64_in _ (by omega)
  have d1 : decide ((1048576 : Int) < nw + P) = false := decide_eq_false (by omega)
  have HPR := Lib.hid hpr
  have s3 : IntKind.i64.wrap ((O.length : Int) - 1) = (K : Int) := by rw [IntWalk.i64_in _ (by omega)]; omega
  have hKl : K < O.length := by omega
  have d0 : decide ((0 : Int) ≤ (K : Int)) = true := decide_eq_true (by omega)
  have H := Lib.hid (h.up hbx)
  have HV := Lib.hid (hv.up hbx)
  have HBX := Lib.hid hbx
  have HBK := Lib.hid hbk
  have HCK := Lib.hid hck
  obtain ⟨k, a, b, id, nm, tx, vk, vn, had⟩ := c
  obtain ⟨hck1, hc⟩ := hc
  dsimp only at hck1
  subst hck1
  have e1 : ((x.k : Int) == 1) = false := by simpa using hc
  have e2 : (x.k = 1) = False := eq_false hc
  clear h hv hbk hck hok hT hR hpr h0 h1 h2 h3 hP hwf hcap1 hgB
  clear hc
  have HLK := Lib.hid (⟨hlk, hlb, hx, hK, hfz, hcap2, hOl, hgl⟩ : _ ∧ _ ∧ _ ∧ _ ∧ _ ∧ _ ∧ _ ∧ _)
  clear hlk hlb hx hK hfz hcap2 hOl hsep
  have hWl : Below w.heap.size w (w.alloc (.cells (chgA ⟨1, a, b, id, nm, tx, vk, vn, had⟩) 239)) := hbx
  clear hbx hWl
  go_enter Tryz.func272, Tryz.ntmps272
  go_wp2_with fail
  generalize w.alloc (.cells (chgA ⟨1, a, b, id, nm, tx, vk, vn, had⟩) 239) = W at *
  refine (gnoneL H.out).mono ?_
  rintro e w' ⟨rfl, rfl⟩
  have b0 := HBK.out.cell (j := 0) rfl
  have b1 := HBK.out.cell (j := 1) rfl
  have b2 := HBK.out.cell (j := 2) rfl
  have b3 := HBK.out.cell (j := 3) rfl
  have b4 := HBK.out.cell (j := 4) rfl
  have b5 := HBK.out.cell (j := 5) rfl
  have b6 := HBK.out.cell (j := 6) rfl
  have b7 := HBK.out.cell (j := 7) rfl
  have b8 := HBK.out.cell (j := 8) rfl
  go_wp2_with fail
  refine (HCK.out W HBX.out).mono ?_
  rintro e w1 ⟨rfl, hb1⟩
  have H1 := Lib.hid (H.out.up hb1)
  have HV1 := Lib.hid (HV.out.up hb1)
  have HBX1 := Lib.hid (up2 HBX.out hb1)
  have HBK1 := Lib.hid (HBK.out.up hb1)
  clear b0 b1 b2 b3 b4 b5 b6 b7 b8 hb1 H HV HBX HBK HCK
  have b0 := HBK1.out.cell (j := 0) rfl
  have b1 := HBK1.out.cell (j := 1) rfl
  have b2 := HBK1.out.cell (j := 2) rfl
  have b3 := HBK1.out.cell (j := 3) rfl
  have b4 := HBK1.out.cell (j := 4) rfl
  have b5 := HBK1.out.cell (j := 5) rfl
  have b6 := HBK1.out.cell (j := 6) rfl
  have b7 := HBK1.out.cell (j := 7) rfl
  have b8 := HBK1.out.cell (j := 8) rfl
  have l2 := H1.out.cell (j := 2) rfl
  have hlk : w1.cell? ⟨g, K * 9, none⟩ = _ := (World.cell?_of_block (w := w) (a := ⟨g, K * 9, none⟩) (HBX1.out.block g hgl)).trans HLK.out.1
  have hlb : w1.cell? ⟨g, K * 9 + 2, none⟩ = _ := (World.cell?_of_block (w := w) (a := ⟨g, K * 9 + 2, none⟩) (HBX1.out.block g hgl)).trans HLK.out.2.1
  go_wp2_with fail
  go_region
  go_wp2_with fail
  refine (HPR.out w1.drew (HBX1.out.drew)).mono ?_
  rintro e w2 ⟨rfl, hb2⟩
  have hb2' : Below w1.heap.size w1 w2 := up2 ((Below.refl _ w1).drew) hb2
  have H2 := Lib.hid (H1.out.up hb2')
  have HV2 := Lib.hid (HV1.out.up hb2')
  have HBX2 := Lib.hid (up2 HBX1.out hb2')
  have HBK2 := Lib.hid (HBK1.out.up hb2')
  clear b0 b1 b2 b3 b4 b5 b6 b7 b8 hb2 hb2' H1 HV1 HBX1 HBK1 HPR l2 hlk hlb
  have l5 := H2.out.cell (j := 5) rfl
  go_wp2_with fail
  obtain ⟨VV, hVV⟩ : ∃ VV : Value, VV = (.slice (some ⟨g, 0, none⟩) O.length cap) := ⟨_, rfl⟩
  have hVB : ∀ k, VV.ownBlock = some k → k ≠ l ∧ k < w.heap.size := by
    intro k hk
    subst hVV
    simp [Value.ownBlock] at hk
    exact hk ▸ ⟨hgl2, hgl⟩
  obtain ⟨v', w3, happ, hown3, hb3, ho3, hblk3⟩ := append_elem eltCg (B := 0) (w := w2.drew) (hVV ▸ (HV2.out.up ((Below.refl _ w2).drew)) : ROwn encCg 239 9 0 w2.drew VV O) (Nat.zero_le _) ⟨1, a, b, id, nm, tx, vk, vn, had⟩ (by have := HLK.out; omega) (by omega)
  have HP := Lib.hid happ
  have HO3 : Hid (Only (fun k => VV.ownBlock = some k) w2 w3) := Lib.hid (((Only.refl _ w2).drew).trans ho3)
  have hon : Only (fun k => VV.ownBlock = some k) w w3 := (Only.of_below HBX2.out).trans HO3.out
  have HON := Lib.hid hon
  have hk3 : Blk w3 l 197 _ := H2.out.only HO3.out (fun hk => (hVB l hk).1 rfl)
  have HK3 := Lib.hid hk3
  have HB3 : Hid (∀ k, v'.ownBlock = some k → k ≠ l ∧ (VV.ownBlock = some k ∨ w.heap.size ≤ k)) := Lib.hid (fun k hk => by
    have hs2 : w.heap.size ≤ w2.heap.size := HBX2.out.size
    rcases hblk3 with e | ⟨g3, e, hg3⟩
    · rw [e] at hk; exact ⟨(hVB k hk).1, .inl hk⟩
    · rw [e] at hk; cases hk; exact ⟨by have : w2.drew.heap.size ≤ k := hg3; have : w2.drew.heap.size = w2.heap.size := rfl; omega, .inr (by have : w2.drew.heap.size ≤ k := hg3; have : w2.drew.heap.size = w2.heap.size := rfl; omega)⟩)
  have C2 : ∀ x : OnW (fun k => VV.ownBlock = some k) w2, x.w.cell? ⟨l, 2, none⟩ = some (.slice (some ⟨g, 0, none⟩) O.length cap) := fun x => (H2.out.only x.on (fun hk => (hVB l hk).1 rfl)).cell (j := 2) rfl
  have CB : ∀ x : OnW (fun k => VV.ownBlock = some k) w2, Blk x.w w.heap.size 239 _ := fun x => HBK2.out.only x.on (fun hk => by have := (hVB _ hk).2; omega)
  have b0 := fun x => (CB x).cell (j := 0) rfl
  have b1 := fun x => (CB x).cell (j := 1) rfl
  have b2 := fun x => (CB x).cell (j := 2) rfl
  have b3 := fun x => (CB x).cell (j := 3) rfl
  have b4 := fun x => (CB x).cell (j := 4) rfl
  have b5 := fun x => (CB x).cell (j := 5) rfl
  have b6 := fun x => (CB x).cell (j := 6) rfl
  have b7 := fun x => (CB x).cell (j := 7) rfl
  have b8 := fun x => (CB x).cell (j := 8) rfl
  clear CB happ ho3 hon hk3 hb3 hblk3
  refine wp_region_mixO (fun k => VV.ownBlock = some k) 10 (.one [0, 1, 2, 3, 4, 5] 6 (.one [] 7 (.done [8, 9]))) (by kernel_rfl) (fun c d v a w h => by cases d <;> exact h) (by kernel_rfl) ?_
  simp only [wpMixT, pk_nil, pk_cons, pushAt_zero, pushAt_succ, List.drop_succ_cons, List.drop_zero]
  repeat (go_big_quiet_step (fail))
  refine wpQuiet_nil ?_
  clear b0 b1 b2 b3 b4 b5 b6 b7 b8
  have HVV := Lib.hid hVV
  subst hVV
  clear HVV
  go_wp2_with fail
  refine thenQ_normal ⟨⟨⟨_, (Only.refl _ w2).drew.alloc _⟩, rfl⟩, ?_⟩
  refine wpQuiet_nil ?_
  refine wpList_app_run rfl _ _ _ rfl rfl rfl HP.out ?_
  go_wp2_with fail
  refine thenQ_normal ⟨⟨⟨_, HO3.out⟩, rfl⟩, ?_⟩
  repeat (go_big_quiet_step (fail))
  refine wpQuiet_nil ?_
  clear C2
  have HOW := Lib.hid hown3
  obtain ⟨A', cap', hv'q, _, _, _⟩ := hown3.shape eltCg
  have hll : (O ++ [(⟨1, a, b, id, nm, tx, vk, vn, had⟩ : Chg)]).length = (O.length + 1) := by simp
  rw [hll] at hv'q
  subst hv'q
  clear hown3 hll
  have f2 := HK3.out.fz 2
  have k2 := HK3.out.cell (j := 2) rfl
  have hsw : w.heap.size ≤ w3.heap.size := HON.out.size
  have hk4 := HK3.out.set (j := 2) (by simp) (.slice A' (O.length + 1) cap')
  have HW4 := Lib.hid (HOW.out.kept (w' := w3.setCell ⟨l, 2, none⟩ (.slice A' (O.length + 1) cap')) (fun g hg => Below.heap_setCell _ _ _ _ (HB3.out g hg).1))
  have HO4 := Lib.hid ((HON.out.mono (T := fun k => k = l ∨ (Value.slice (some ⟨g, 0, none⟩) O.length cap).ownBlock = some k) (fun k hk => .inr hk)).setCell (p := ⟨l, 2, none⟩) (.inl rfl) (.slice A' (O.length + 1) cap'))
  have HK4 := Lib.hid hk4
  clear hk4
  go_wp2_with fail
  generalize w3.setCell ⟨l, 2, none⟩ (.slice A' (O.length + 1) cap') = w4 at *
  have m4 := HK4.out.cell (j := 4) rfl
  have m5 := HK4.out.cell (j := 5) rfl
  have f4 := HK4.out.fz 4
  have f5 := HK4.out.fz 5
  go_region
  go_wp2_with fail
  go_ret
  have hk6 := (HK4.out.set (j := 4) (by simp) (.int .i64 (co + P))).set (j := 5) (by simp) (.int .i64 (nw + P))
  refine ⟨rfl, _, ?_, hk6, ((HO4.out.setCell (p := ⟨l, 4, none⟩) (.inl rfl) (.int .i64 (co + P))).setCell (p := ⟨l, 5, none⟩) (.inl rfl) (.int .i64 (nw + P))).drew, fun k hk => (HB3.out k hk).2⟩
  exact HW4.out.kept (fun g hg => by
    have h1 := (HB3.out g hg).1
    exact (Below.heap_setCell (w4.setCell ⟨l, 4, none⟩ (.int .i64 (co + P))) ⟨l, 5, none⟩ (.int .i64 (nw + P)) g h1).trans (Below.heap_setCell w4 ⟨l, 4, none⟩ (.int .i64 (co + P)) g h1))
set_option maxRecDepth 100000 in
set_option maxHeartbeats 4000000 in
theorem gadd_n3 {c : Chg} {x : Chg} {K : Nat} (hv : ROwn encCg 239 9 0 w ov O) (hx : O[K]? = some x) (hK : O.length = K + 1) (hOl : O.length ≤ 1000000) (hsep : ∀ k, ov.ownBlock = some k → k ≠ l) (hc : c.k = 1 ∧ x.k = 1 ∧ x.b ≠ c.a) (hok : ChgOk c) (hT : Tabs N w) (hR : Rules N w) (h : Blk w l 197 (logC gv (ov) ch co nw)) (h0 : 0 ≤ nw) (h1 : nw + priceC c ≤ 1048576) (h2 : 0 ≤ co) (h3 : co ≤ 100000000) :
    Calls Tryz.prog 272 #[.pointer (some ⟨l, 0, none⟩), chgV c] w fun e w' => e = .returned (.int .i64 0) ∧ AddP w l gv (ov) ch (co + priceC c) (nw + priceC c) (O ++ [c]) w' := by
  have hwf : ∀ k, ov.ownBlock = some k → k < w.heap.size := fun k hk => hv.lt hk
  obtain ⟨g, cap, rfl, hcap1, hcap2, hgB, hgl, hfz, hat⟩ := hv.lies eltCg (by omega)
  have hgl2 : g ≠ l := hsep g rfl
  have hlk : w.cell? ⟨g, K * 9, none⟩ = some (.int .i64 x.k) := hat K x 0 _ hx rfl
  have hlb : w.cell? ⟨g, K * 9 + 2, none⟩ = some (.int .i64 x.b) := hat K x 2 _ hx rfl
  clear hat
  have hbx := below1 w (.cells (chgA c) 239)
  have hbk := Blk.made w 239 (chgA c)
  have hl0 := h.lt
  have hck := fun (w' : World) (hb : Below w.heap.size w w') => gcheck hok (hT.up hb) (hR.up hb)
  have hpr := fun (w' : World) (hb : Below w.heap.size w w') => gprice hok (hT.up hb)
  obtain ⟨P, hP⟩ : ∃ P : Nat, P = priceC c := ⟨_, rfl⟩
  rw [← hP] at h1 hpr ⊢
  have s1 : IntKind.i64.wrap (nw + (P : Int)) = nw + P := IntWalk.i64_in _ (by omega)
  have s2 : IntKind.i64.wrap (co + (P : Int)) = co + P := IntWalk.i64_in _ (by omega)
  have d1 : decide ((1048576 : Int) < nw + P) = false := decide_eq_false (by omega)
  have HPR := Lib.hid hpr
  have s3 : IntKind.i64.wrap ((O.length : Int) - 1) = (K : Int) := by rw [IntWalk.i64_in _ (by omega)]; omega
  have hKl : K < O.length := by omega
  have d0 : decide ((0 : Int) ≤ (K : Int)) = true := decide_eq_true (by omega)
  have H := Lib.hid (h.up hbx)
  have HV := Lib.hid (hv.up hbx)
  have HBX := Lib.hid hbx
  have HBK := Lib.hid hbk
  have HCK := Lib.hid hck
  obtain ⟨k, a, b, id, nm, tx, vk, vn, had⟩ := c
  obtain ⟨hck1, hc⟩ := hc
  dsimp only at hck1
  subst hck1
  obtain ⟨hcx, hc⟩ := hc
  dsimp only at hc
  rw [hcx] at hlk
  have e1 : ((x.b : Int) == a) = false := by simpa using hc
  have e2 : (x.b = a) = False := eq_false hc
  clear h hv hbk hck hok hT hR hpr h0 h1 h2 h3 hP hwf hcap1 hgB
  clear hc hcx
  have HLK := Lib.hid (⟨hlk, hlb, hx, hK, hfz, hcap2, hOl, hgl⟩ : _ ∧ _ ∧ _ ∧ _ ∧ _ ∧ _ ∧ _ ∧ _)
  clear hlk hlb hx hK hfz hcap2 hOl hsep
  have hWl : Below w.heap.size w (w.alloc (.cells (chgA ⟨1, a, b, id, nm, tx, vk, vn, had⟩) 239)) := hbx
  clear hbx hWl
  go_enter Tryz.func272, Tryz.ntmps272
  go_wp2_with fail
  generalize w.alloc (.cells (chgA ⟨1, a, b, id, nm, tx, vk, vn, had⟩) 239) = W at *
  refine (gnoneL H.out).mono ?_
  rintro e w' ⟨rfl, rfl⟩
  have b0 := HBK.out.cell (j := 0) rfl
  have b1 := HBK.out.cell (j := 1) rfl
  have b2 := HBK.out.cell (j := 2) rfl
  have b3 := HBK.out.cell (j := 3) rfl
  have b4 := HBK.out.cell (j := 4) rfl
  have b5 := HBK.out.cell (j := 5) rfl
  have b6 := HBK.out.cell (j := 6) rfl
  have b7 := HBK.out.cell (j := 7) rfl
  have b8 := HBK.out.cell (j := 8) rfl
  go_wp2_with fail
  refine (HCK.out W HBX.out).mono ?_
  rintro e w1 ⟨rfl, hb1⟩
  have H1 := Lib.hid (H.out.up hb1)
  have HV1 := Lib.hid (HV.out.up hb1)
  have HBX1 := Lib.hid (up2 HBX.out hb1)
  have HBK1 := Lib.hid (HBK.out.up hb1)
  clear b0 b1 b2 b3 b4 b5 b6 b7 b8 hb1 H HV HBX HBK HCK
  have b0 := HBK1.out.cell (j := 0) rfl
  have b1 := HBK1.out.cell (j := 1) rfl
  have b2 := HBK1.out.cell (j := 2) rfl
  have b3 := HBK1.out.cell (j := 3) rfl
  have b4 := HBK1.out.cell (j := 4) rfl
  have b5 := HBK1.out.cell (j := 5) rfl
  have b6 := HBK1.out.cell (j := 6) rfl
  have b7 := HBK1.out.cell (j := 7) rfl
  have b8 := HBK1.out.cell (j := 8) rfl
  have l2 := H1.out.cell (j := 2) rfl
  have hlk : w1.cell? ⟨g, K * 9, none⟩ = _ := (World.cell?_of_block (w := w) (a := ⟨g, K * 9, none⟩) (HBX1.out.block g hgl)).trans HLK.out.1
  have hlb : w1.cell? ⟨g, K * 9 + 2, none⟩ = _ := (World.cell?_of_block (w := w) (a := ⟨g, K * 9 + 2, none⟩) (HBX1.out.block g hgl)).trans HLK.out.2.1
  go_wp2_with fail
  go_region
  go_wp2_with fail
  refine (HPR.out w1.drew (HBX1.out.drew)).mono ?_
  rintro e w2 ⟨rfl, hb2⟩
  have hb2' : Below w1.heap.size w1 w2 := up2 ((Below.refl _ w1).drew) hb2
  have H2 := Lib.hid (H1.out.up hb2')
  have HV2 := Lib.hid (HV1.out.up hb2')
  have HBX2 := Lib.hid (up2 HBX1.out hb2')
  have HBK2 := Lib.hid (HBK1.out.up hb2')
  clear b0 b1 b2 b3 b4 b5 b6 b7 b8 hb2 hb2' H1 HV1 HBX1 HBK1 HPR l2 hlk hlb
  have l5 := H2.out.cell (j := 5) rfl
  go_wp2_with fail
  obtain ⟨VV, hVV⟩ : ∃ VV : Value, VV = (.slice (some ⟨g, 0, none⟩) O.length cap) := ⟨_, rfl⟩
  have hVB : ∀ k, VV.ownBlock = some k → k ≠ l ∧ k < w.heap.size := by
    intro k hk
    subst hVV
    simp [Value.ownBlock] at hk
    exact hk ▸ ⟨hgl2, hgl⟩
  obtain ⟨v', w3, happ, hown3, hb3, ho3, hblk3⟩ := append_elem eltCg (B := 0) (w := w2.drew) (hVV ▸ (HV2.out.up ((Below.refl _ w2).drew)) : ROwn encCg 239 9 0 w2.drew VV O) (Nat.zero_le _) ⟨1, a, b, id, nm, tx, vk, vn, had⟩ (by have := HLK.out; omega) (by omega)
  have HP := Lib.hid happ
  have HO3 : Hid (Only (fun k => VV.ownBlock = some k) w2 w3) := Lib.hid (((Only.refl _ w2).drew).trans ho3)
  have hon : Only (fun k => VV.ownBlock = some k) w w3 := (Only.of_below HBX2.out).trans HO3.out
  have HON := Lib.hid hon
  have hk3 : Blk w3 l 197 _ := H2.out.only HO3.out (fun hk => (hVB l hk).1 rfl)
  have HK3 := Lib.hid hk3
  have HB3 : Hid (∀ k, v'.ownBlock = some k → k ≠ l ∧ (VV.ownBlock = some k ∨ w.heap.size ≤ k)) := Lib.hid (fun k hk => by
    have hs2 : w.heap.size ≤ w2.heap.size := HBX2.out.size
    rcases hblk3 with e | ⟨g3, e, hg3⟩
    · rw [e] at hk; exact ⟨(hVB k hk).1, .inl hk⟩
    · rw [e] at hk; cases hk; exact ⟨by have : w2.drew.heap.size ≤ k := hg3; have : w2.drew.heap.size = w2.heap.size := rfl; omega, .inr (by have : w2.drew.heap.size ≤ k := hg3; have : w2.drew.heap.size = w2.heap.size := rfl; omega)⟩)
  have C2 : ∀ x : OnW (fun k => VV.ownBlock = some k) w2, x.w.cell? ⟨l, 2, none⟩ = some (.slice (some ⟨g, 0, none⟩) O.length cap) := fun x => (H2.out.only x.on (fun hk => (hVB l hk).1 rfl)).cell (j := 2) rfl
  have CB : ∀ x : OnW (fun k => VV.ownBlock = some k) w2, Blk x.w w.heap.size 239 _ := fun x => HBK2.out.only x.on (fun hk => by have := (hVB _ hk).2; omega)
  have b0 := fun x => (CB x).cell (j := 0) rfl
  have b1 := fun x => (CB x).cell (j := 1) rfl
  have b2 := fun x => (CB x).cell (j := 2) rfl
  have b3 := fun x => (CB x).cell (j := 3) rfl
  have b4 := fun x => (CB x).cell (j := 4) rfl
  have b5 := fun x => (CB x).cell (j := 5) rfl
  have b6 := fun x => (CB x).cell (j := 6) rfl
  have b7 := fun x => (CB x).cell (j := 7) rfl
  have b8 := fun x => (CB x).cell (j := 8) rfl
  clear CB happ ho3 hon hk3 hb3 hblk3
  refine wp_region_mixO (fun k => VV.ownBlock = some k) 10 (.one [0, 1, 2, 3, 4, 5] 6 (.one [] 7 (.done [8, 9]))) (by kernel_rfl) (fun c d v a w h => by cases d <;> exact h) (by kernel_rfl) ?_
  simp only [wpMixT, pk_nil, pk_cons, pushAt_zero, pushAt_succ, List.drop_succ_cons, List.drop_zero]
  repeat (go_big_quiet_step (fail))
  refine wpQuiet_nil ?_
  clear b0 b1 b2 b3 b4 b5 b6 b7 b8
  have HVV := Lib.hid hVV
  subst hVV
  clear HVV
  go_wp2_with fail
  refine thenQ_normal ⟨⟨⟨_, (Only.refl _ w2).drew.alloc _⟩, rfl⟩, ?_⟩
  refine wpQuiet_nil ?_
  refine wpList_app_run rfl _ _ _ rfl rfl rfl HP.out ?_
  go_wp2_with fail
  refine thenQ_normal ⟨⟨⟨_, HO3.out⟩, rfl⟩, ?_⟩
  repeat (go_big_quiet_step (fail))
  refine wpQuiet_nil ?_
  clear C2
  have HOW := Lib.hid hown3
  obtain ⟨A', cap', hv'q, _, _, _⟩ := hown3.shape eltCg
  have hll : (O ++ [(⟨1, a, b, id, nm, tx, vk, vn, had⟩ : Chg)]).length = (O.length + 1) := by simp
  rw [hll] at hv'q
  subst hv'q
  clear hown3 hll
  have f2 := HK3.out.fz 2
  have k2 := HK3.out.cell (j := 2) rfl
  have hsw : w.heap.size ≤ w3.heap.size := HON.out.size
  have hk4 := HK3.out.set (j := 2) (by simp) (.slice A' (O.length + 1) cap')
  have HW4 := Lib.hid (HOW.out.kept (w' := w3.setCell ⟨l, 2, none⟩ (.slice A' (O.length + 1) cap')) (fun g hg => Below.heap_setCell _ _ _ _ (HB3.out g hg).1))
  have HO4 := Lib.hid ((HON.out.mono (T := fun k => k = l ∨ (Value.slice (some ⟨g, 0, none⟩) O.length cap).ownBlock = some k) (fun k hk => .inr hk)).setCell (p := ⟨l, 2, none⟩) (.inl rfl) (.slice A' (O.length + 1) cap'))
  have HK4 := Lib.hid hk4
  clear hk4
  go_wp2_with fail
  generalize w3.setCell ⟨l, 2, none⟩ (.slice A' (O.length + 1) cap') = w4 at *
  have m4 := HK4.out.cell (j := 4) rfl
  have m5 := HK4.out.cell (j := 5) rfl
  have f4 := HK4.out.fz 4
  have f5 := HK4.out.fz 5
  go_region
  go_wp2_with fail
  go_ret
  have hk6 := (HK4.out.set (j := 4) (by simp) (.int .i64 (co + P))).set (j := 5) (by simp) (.int .i64 (nw + P))
  refine ⟨rfl, _, ?_, hk6, ((HO4.out.setCell (p := ⟨l, 4, none⟩) (.inl rfl) (.int .i64 (co + P))).setCell (p := ⟨l, 5, none⟩) (.inl rfl) (.int .i64 (nw + P))).drew, fun k hk => (HB3.out k hk).2⟩
  exact HW4.out.kept (fun g hg => by
    have h1 := (HB3.out g hg).1
    exact (Below.heap_setCell (w4.setCell ⟨l, 4, none⟩ (.int .i64 (co + P))) ⟨l, 5, none⟩ (.int .i64 (nw + P)) g h1).trans (Below.heap_setCell w4 ⟨l, 4, none⟩ (.int .i64 (co + P)) g h1))
set_option maxRecDepth 100000 in
set_option maxHeartbeats 4000000 in
theorem gadd_merge {c : Chg} {x : Chg} {K : Nat} (hv : ROwn encCg 239 9 0 w ov O) (hx : O[K]? = some x) (hK : O.length = K + 1) (hOl : O.length ≤ 1000000) (hsep : ∀ k, ov.ownBlock = some k → k ≠ l) (hc : c.k = 1 ∧ x.k = 1 ∧ x.b = c.a) (hok : ChgOk c) (hT : Tabs N w) (hR : Rules N w) (h : Blk w l 197 (logC gv (ov) ch co nw))  :
    Calls Tryz.prog 272 #[.pointer (some ⟨l, 0, none⟩), chgV c] w fun e w' => e = .returned (.int .i64 0) ∧ AddP w l gv ov ch co nw (O.set K { x with b := c.b }) w' := by
  have hwf : ∀ k, ov.ownBlock = some k → k < w.heap.size := fun k hk => hv.lt hk
  obtain ⟨g, cap, rfl, hcap1, hcap2, hgB, hgl, hfz, hat⟩ := hv.lies eltCg (by omega)
  have hgl2 : g ≠ l := hsep g rfl
  have hlk : w.cell? ⟨g, K * 9, none⟩ = some (.int .i64 x.k) := hat K x 0 _ hx rfl
  have hlb : w.cell? ⟨g, K * 9 + 2, none⟩ = some (.int .i64 x.b) := hat K x 2 _ hx rfl
  clear hat
  have hbx := below1 w (.cells (chgA c) 239)
  have hbk := Blk.made w 239 (chgA c)
  have hl0 := h.lt
  have hck := fun (w' : World) (hb : Below w.heap.size w w') => gcheck hok (hT.up hb) (hR.up hb)
  have s3 : IntKind.i64.wrap ((O.length : Int) - 1) = (K : Int) := by rw [IntWalk.i64_in _ (by omega)]; omega
  have hKl : K < O.length := by omega
  have d0 : decide ((0 : Int) ≤ (K : Int)) = true := decide_eq_true (by omega)
  have H := Lib.hid (h.up hbx)
  have HV := Lib.hid (hv.up hbx)
  have HBX := Lib.hid hbx
  have HBK := Lib.hid hbk
  have HCK := Lib.hid hck
  obtain ⟨k, a, b, id, nm, tx, vk, vn, had⟩ := c
  obtain ⟨hck1, hc⟩ := hc
  dsimp only at hck1
  subst hck1
  obtain ⟨hcx, hc⟩ := hc
  dsimp only at hc
  rw [hcx] at hlk
  rw [hc] at hlb
  clear h hv hbk hck hok hT hR hwf hcap1 hgB
  have HLK := Lib.hid (⟨hlk, hlb, hx, hK, hfz, hcap2, hOl, hgl⟩ : _ ∧ _ ∧ _ ∧ _ ∧ _ ∧ _ ∧ _ ∧ _)
  clear hlk hlb hx hK hfz hcap2 hOl hsep
  have hWl : Below w.heap.size w (w.alloc (.cells (chgA ⟨1, a, b, id, nm, tx, vk, vn, had⟩) 239)) := hbx
  clear hbx hWl
  go_enter Tryz.func272, Tryz.ntmps272
  go_wp2_with fail
  generalize w.alloc (.cells (chgA ⟨1, a, b, id, nm, tx, vk, vn, had⟩) 239) = W at *
  refine (gnoneL H.out).mono ?_
  rintro e w' ⟨rfl, rfl⟩
  have b0 := HBK.out.cell (j := 0) rfl
  have b1 := HBK.out.cell (j := 1) rfl
  have b2 := HBK.out.cell (j := 2) rfl
  have b3 := HBK.out.cell (j := 3) rfl
  have b4 := HBK.out.cell (j := 4) rfl
  have b5 := HBK.out.cell (j := 5) rfl
  have b6 := HBK.out.cell (j := 6) rfl
  have b7 := HBK.out.cell (j := 7) rfl
  have b8 := HBK.out.cell (j := 8) rfl
  go_wp2_with fail
  refine (HCK.out W HBX.out).mono ?_
  rintro e w1 ⟨rfl, hb1⟩
  have H1 := Lib.hid (H.out.up hb1)
  have HV1 := Lib.hid (HV.out.up hb1)
  have HBX1 := Lib.hid (up2 HBX.out hb1)
  have HBK1 := Lib.hid (HBK.out.up hb1)
  clear b0 b1 b2 b3 b4 b5 b6 b7 b8 hb1 H HV HBX HBK HCK
  have b0 := HBK1.out.cell (j := 0) rfl
  have b1 := HBK1.out.cell (j := 1) rfl
  have b2 := HBK1.out.cell (j := 2) rfl
  have b3 := HBK1.out.cell (j := 3) rfl
  have b4 := HBK1.out.cell (j := 4) rfl
  have b5 := HBK1.out.cell (j := 5) rfl
  have b6 := HBK1.out.cell (j := 6) rfl
  have b7 := HBK1.out.cell (j := 7) rfl
  have b8 := HBK1.out.cell (j := 8) rfl
  have l2 := H1.out.cell (j := 2) rfl
  have hlk : w1.cell? ⟨g, K * 9, none⟩ = _ := (World.cell?_of_block (w := w) (a := ⟨g, K * 9, none⟩) (HBX1.out.block g hgl)).trans HLK.out.1
  have hf1 : w1.frozen? ⟨g, K * 9 + 2, none⟩ = false := (World.frozen?_of_block (w := w) (a := ⟨g, K * 9 + 2, none⟩) (HBX1.out.block g hgl)).trans (HLK.out.2.2.2.2.1 _ (by have := HLK.out.2.2.2.1; omega))
  have hlb : w1.cell? ⟨g, K * 9 + 2, none⟩ = _ := (World.cell?_of_block (w := w) (a := ⟨g, K * 9 + 2, none⟩) (HBX1.out.block g hgl)).trans HLK.out.2.1
  go_wp2_with fail
  go_region
  go_wp2_with fail
  go_region
  go_wp2_with fail
  go_ret
  obtain ⟨_, _, hx, hK, hfz, hcap2, hOl, _⟩ := HLK.out
  have hp := ROwn.put eltCg (HV1.out.up ((Below.refl _ w1).drew)) (i := K) (j := 2) (x := x) (y := { x with b := b }) (u := .int .i64 b) hx (by omega) rfl
  refine ⟨rfl, .slice (some ⟨g, 0, none⟩) O.length cap, ?_, (H1.out.kept (Below.heap_setCell w1 ⟨g, K * 9 + 2, none⟩ (.int .i64 b) l (fun e => hgl2 e.symm)) : Blk _ _ _ _), ?_, fun k hk => .inl hk⟩
  · rw [show O.length = (O.set K { x with b := b }).length by simp]
    rw [List.length_set]
    exact (hp.kept (fun q hq => rfl))
  · exact ((Only.of_below (S := fun k => k = l ∨ (Value.slice (some ⟨g, 0, none⟩) O.length cap).ownBlock = some k) HBX1.out).setCell (p := ⟨g, K * 9 + 2, none⟩) (.inr rfl) (.int .i64 b)).drew.drew
theorem set_last (O : List Chg) (y : Chg) {K : Nat} (hK : O.length = K + 1) : O.set K y = O.dropLast ++ [y] := by
  have hne : O ≠ [] := fun e => by rw [e] at hK; simp at hK
  have h := List.dropLast_concat_getLast hne
  have hl : O.dropLast.length = K := by simp; omega
  generalize O.getLast hne = z at h
  generalize O.dropLast = L at h hl ⊢
  subst h
  rw [List.set_append_right _ _ (by omega), hl, Nat.sub_self, List.set_cons_zero]
/-- The open group with a change. -/
def mergeB (O : List Chg) (c : Chg) : Bool := match O.getLast? with
  | some x => decide (c.k = 1 ∧ x.k = 1 ∧ x.b = c.a)
  | none => false
def logAdd (O : List Chg) (c : Chg) : List Chg := if mergeB O c = true then O.dropLast ++ [{ (O.getLastD chg0) with b := c.b }] else O ++ [c]
def addCost (O : List Chg) (c : Chg) : Nat := if mergeB O c = true then 0 else priceC c
theorem gadd {c : Chg} (hov : O = [] → ov = .slice none 0 0) (hv : ROwn encCg 239 9 0 w ov O) (hOl : O.length ≤ 1000000) (hsep : ∀ k, ov.ownBlock = some k → k ≠ l) (hok : ChgOk c) (hT : Tabs N w) (hR : Rules N w) (h : Blk w l 197 (logC gv ov ch co nw)) (h0 : 0 ≤ nw) (h1 : nw + priceC c ≤ 1048576) (h2 : 0 ≤ co) (h3 : co ≤ 100000000) :
    Calls Tryz.prog 272 #[.pointer (some ⟨l, 0, none⟩), chgV c] w fun e w' => e = .returned (.int .i64 0) ∧ AddP w l gv ov ch (co + addCost O c) (nw + addCost O c) (logAdd O c) w' := by
  rcases Nat.eq_zero_or_pos O.length with hz | hz
  · obtain rfl := List.eq_nil_of_length_eq_zero hz
    obtain rfl := hov rfl
    exact gadd_nil hok hT hR h h0 h1 h2 h3
  · obtain ⟨K, hK⟩ : ∃ K, O.length = K + 1 := ⟨O.length - 1, by omega⟩
    have hlt : K < O.length := by omega
    have hx : O[K]? = some O[K] := List.getElem?_eq_getElem hlt
    have hg : O.getLast? = some O[K] := by rw [List.getLast?_eq_getElem?, show O.length - 1 = K by omega]; exact hx
    have hm : mergeB O c = decide (c.k = 1 ∧ O[K].k = 1 ∧ O[K].b = c.a) := by unfold mergeB; rw [hg]
    unfold logAdd addCost
    by_cases hc1 : c.k = 1
    · by_cases hc2 : O[K].k = 1
      · by_cases hc3 : O[K].b = c.a
        · rw [hm, decide_eq_true ⟨hc1, hc2, hc3⟩, if_pos rfl, if_pos rfl]
          have e : O.dropLast ++ [{ (O.getLastD chg0) with b := c.b }] = O.set K { O[K] with b := c.b } := by
            have h1 : O.getLastD chg0 = O[K] := by rw [List.getLastD_eq_getLast?, hg]; rfl
            rw [h1]
            exact (set_last O _ hK).symm
          rw [e]
          simpa using gadd_merge hv hx hK hOl hsep ⟨hc1, hc2, hc3⟩ hok hT hR h
        · rw [hm, decide_eq_false (fun q => hc3 q.2.2), if_neg (by simp), if_neg (by simp)]
          exact gadd_n3 hv hx hK hOl hsep ⟨hc1, hc2, hc3⟩ hok hT hR h h0 h1 h2 h3
      · rw [hm, decide_eq_false (fun q => hc2 q.2.1), if_neg (by simp), if_neg (by simp)]
        exact gadd_n2 hv hx hK hOl hsep ⟨hc1, hc2⟩ hok hT hR h h0 h1 h2 h3
    · rw [hm, decide_eq_false (fun q => hc1 q.1), if_neg (by simp), if_neg (by simp)]
      exact gadd_n1 hv hx hK hOl hsep hc1 hok hT hR h h0 h1 h2 h3
end
end Go.Proofs.YtcfdalmllegefaaGreatDoor
