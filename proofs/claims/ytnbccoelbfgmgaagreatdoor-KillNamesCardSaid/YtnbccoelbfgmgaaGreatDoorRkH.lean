/- Package kill: Append. -/
import Derived.Test.YtnbccoelbfgmgaaGreatDoorZ23
import Derived.Test.YtnbccoelbfgmgaaGreatDoorZ20
import Derived.Deep.WholeRow
namespace Go.Proofs.YtnbccoelbfgmgaaGreatDoor
open Go.RowKit
set_option linter.unusedVariables false
set_option linter.unusedSimpArgs false
section
variable {w w' : World} {b : Nat} {ts : List ByteArray} {fi n most at_ : Nat} {L : List ByteArray}
theorem ringL_head (ts : List ByteArray) (fi n : Nat) (s : ByteArray) (hl : ts.length = 60) (hfi : fi < 60) (hn : 0 < n) (hm : n ≤ 60) :
    ringL (ts.set fi s) fi n = s :: (ringL ts fi n).tail := by
  apply List.ext_getElem?
  intro i
  by_cases hi : i < n
  · rw [ringL_at _ _ _ _ hi]
    rcases i with _ | i
    · rw [ringT_set_same _ _ _ _ hl (by omega)]; rfl
    · rw [List.getElem?_cons_succ, List.getElem?_tail, ringL_at _ _ _ _ hi, ringT_set_ne _ _ _ _ _ (by omega)]
  · rw [List.getElem?_eq_none (by rw [ringL_length]; omega), List.getElem?_eq_none (by simp [ringL_length]; omega)]
theorem Ring.none_no (h : Ring w b L most at_) : Calls Tryz.prog 36 #[.pointer (some ⟨b, 0, none⟩)] w fun e w' => e = .returned (.bool false) ∧ w = w' := by obtain ⟨ts, fi, h, e⟩ := h; exact rnone_no h
set_option maxHeartbeats 1000000 in
theorem Ring.app_nil {N : Nat} (h : Ring w b [] most at_) (s : ByteArray) (ahead : Bool) (err : Nat) (L' : List ByteArray) (HK : Hid (Calls Tryz.prog 10 #[.pointer (some ⟨b, 0, none⟩), .string s] w (RingPost w b L' most 0 err))) :
    Calls Tryz.prog 8 #[.pointer (some ⟨b, 0, none⟩), .string s, .bool ahead] w (RingPost w b L' most 0 err) := by
  obtain ⟨ts, fi, h, e⟩ := h
  have c61 : w.cell? ⟨b, 61, none⟩ = some (.int .i64 0) := h.c61
  clear e
  go_enter Tryz.func8, Tryz.ntmps8
  go_wp2_with fail
  refine (rnone_no h).mono ?_
  rintro e w' ⟨rfl, rfl⟩
  go_wp2_with fail
  refine HK.out.mono ?_
  rintro e w' ⟨rfl, hr, ho⟩
  go_wp2_with fail
  go_ret
  exact ⟨rfl, hr, ho⟩
set_option maxHeartbeats 1000000 in
theorem Ring.app_bad {N : Nat} (h : Ring w b L most at_) (hn : 0 < L.length) (s : ByteArray) (ahead : Bool) (hs : s.size ≤ 1000000000) (hT : Tabs N w) (hN : N ≤ b) (hv : vld s = false) :
    Calls Tryz.prog 8 #[.pointer (some ⟨b, 0, none⟩), .string s, .bool ahead] w (RingPost w b L most at_ 5) := by
  have hV := valid_any s w hs hT
  rw [hv] at hV
  have HV := Lib.hid hV
  have HK : ∀ w1, Below w.heap.size w w1 → Calls Tryz.prog 10 #[.pointer (some ⟨b, 0, none⟩), .string s] w1 (RingPost w1 b L most at_ 5) := fun w1 hb => (h.up hb).kill_bad s hs (hT.up hb) hv
  have HK' := Lib.hid HK
  have c61 : w.cell? ⟨b, 61, none⟩ = some (.int .i64 L.length) := by obtain ⟨ts, fi, h, e⟩ := h; exact h.c61
  have hnz : ((L.length : Int) == 0) = false := by simp; intro e; subst e; simp at hn
  have hno := h.none_no
  have HNO := Lib.hid hno
  clear hV hv HK hno h
  go_enter Tryz.func8, Tryz.ntmps8
  go_wp2_with fail
  refine HNO.out.mono ?_
  rintro e w' ⟨rfl, rfl⟩
  go_wp2_with fail
  refine HV.out.mono ?_
  rintro e w1 ⟨rfl, hb⟩
  go_wp2_with fail
  refine (HK'.out w1 hb).mono ?_
  rintro e w' ⟨rfl, hr, ho⟩
  go_wp2_with fail
  go_ret
  exact ⟨rfl, hr, (Only.of_below hb).then ho (fun i hi _ => hi)⟩
/-- A string laid before or behind another. -/
def catB (s x : ByteArray) (ahead : Bool) : ByteArray := if ahead then s ++ x else x ++ s
set_option maxRecDepth 100000 in
set_option maxHeartbeats 1000000 in
theorem Ring.app_ok {N : Nat} (h : Ring w b L most at_) (hn : 0 < L.length) (s : ByteArray) (ahead : Bool) (hs : s.size + (L.getD 0 ByteArray.empty).size ≤ 65536) (hT : Tabs N w) (hN : N ≤ b) (hv : vld s = true) :
    Calls Tryz.prog 8 #[.pointer (some ⟨b, 0, none⟩), .string s, .bool ahead] w (RingPost w b (catB s (L.getD 0 ByteArray.empty) ahead :: L.tail) most 0 0) := by
  obtain ⟨ts, fi, h, e⟩ := h
  have hV := valid_any s w (by omega) hT
  rw [hv] at hV
  have HV := Lib.hid hV
  have c61 := h.c61
  have hnz : ((L.length : Int) == 0) = false := by simp; intro e; subst e; simp at hn
  have hx0 := h.str 0
  rw [ringT_L e hn, Nat.add_zero, Nat.mod_eq_of_lt h.hfi] at hx0
  obtain ⟨x, hx⟩ : ∃ x, L.getD 0 ByteArray.empty = x := ⟨_, rfl⟩
  rw [hx] at hs hx0
  rw [hx]
  have HX := Lib.hid hx0
  have HE := Lib.hid e
  clear hV hv hx0 hx e
  go_enter Tryz.func8, Tryz.ntmps8
  go_wp2_with fail
  refine (rnone_no h).mono ?_
  rintro e w' ⟨rfl, rfl⟩
  go_wp2_with fail
  refine HV.out.mono ?_
  rintro e w1 ⟨rfl, hb⟩
  go_wp2_with fail
  have h1 := h.up hb
  have C60 : ∀ x : UpW w1.heap.size w1, x.w.cell? ⟨b, 60, none⟩ = some (.int .i64 fi) := fun x => (x.up.cell (p := ⟨b, 60, none⟩) h1.lt).trans h1.c60
  have q0 : (0 : Int) ≤ fi := by omega
  have q1 : (fi : Int) < 60 := by have := h1.hfi; omega
  refine wp_region_mix w1.heap.size 9 [] [0, 1, 2, 3, 4, 5, 6, 7, 8] (by kernel_rfl) (fun c d v a w h => by cases d <;> exact h) (by kernel_rfl) ?_
  simp only [wpMix, pk_nil, pk_cons, pushAt_zero, pushAt_succ, List.drop_succ_cons, List.drop_zero]
  repeat (go_big_quiet_step (fail))
  refine wpQuiet_nil ?_
  have h2 : RingAt w1.drew b ts fi L.length most at_ := h1.kept rfl
  have hb2 : Below w.heap.size w w1.drew := hb.drew
  have hT2 := hT.up hb2
  clear C60 h1 hb hT
  go_wp2_with fail
  generalize w1.drew = W1 at *
  have DX : ∀ y : UpW W1.heap.size W1, y.w.cell? ⟨b, fi, none⟩ = some (.string x) := fun y => (y.up.cell (p := ⟨b, fi, none⟩) h2.lt).trans (h2.tx fi x HX.out)
  have hx1 : x.size ≤ 1000000000 := by omega
  have hs1 : s.size ≤ 1000000000 := by omega
  have hl1 := rlenG_le s
  have hl2 := rlenG_le x
  have hle : ¬ ((65536 : Int) < (rlenG s : Int) + (rlenG x : Int)) := by omega
  have hle2 : decide ((65536 : Int) < (rlenG s : Int) + (rlenG x : Int)) = false := decide_eq_false hle
  have w1 : IntKind.i64.wrap ((rlenG s : Int) + (rlenG x : Int)) = (rlenG s : Int) + (rlenG x : Int) := IntWalk.i64_in _ (by omega)
  have hT3 : Tabs N W1.drew := hT2.up (Below.refl _ _).drew
  refine wp_region_mix W1.heap.size 8 [([0, 2, 3, 4], 1), ([], 5)] [6, 7] (by kernel_rfl) (fun c d v a w h => by cases d <;> exact h) (by kernel_rfl) ?_
  simp only [wpMix, pk_nil, pk_cons, pushAt_zero, pushAt_succ, List.drop_succ_cons, List.drop_zero]
  repeat (go_big_quiet_step (fail))
  refine wpQuiet_nil ?_
  go_wp2_with fail
  refine (runesLen s _ hs1 hT3).mono ?_
  rintro e w2 ⟨rfl, hb3⟩
  have hb4 : Below W1.heap.size W1 w2 := (Below.refl _ _).drew.trans hb3
  go_wp2_with fail
  refine thenQ_normal ⟨⟨⟨_, hb4⟩, rfl⟩, ?_⟩
  refine wpQuiet_nil ?_
  go_wp2_with fail
  refine (runesLen x _ hx1 (hT3.up hb3)).mono ?_
  rintro e w3 ⟨rfl, hb5⟩
  have hb6 : Below W1.heap.size W1 w3 := up2 hb4 hb5
  go_wp2_with fail
  refine thenQ_normal ⟨⟨⟨_, hb6⟩, rfl⟩, ?_⟩
  repeat (go_big_quiet_step (fail))
  refine wpQuiet_nil ?_
  have h3 := h2.up hb6
  have hb7 : Below w.heap.size w w3 := up2 hb2 hb6
  have cfi := h3.tx fi x HX.out
  have zfi := h3.fz fi (by omega)
  have hne : fi ≠ 63 := by omega
  have c63 : (w3.setCell ⟨b, fi, none⟩ (.string (catB s x ahead))).cell? ⟨b, 63, none⟩ = some (.int .i64 at_) := by
    rw [World.cell?_setCell_other _ _ _ _ (by simp [hne])]; exact h3.c63
  have z63 : (w3.setCell ⟨b, fi, none⟩ (.string (catB s x ahead))).frozen? ⟨b, 63, none⟩ = false := by rw [World.frozen?_setCell]; exact h3.fz 63 (by omega)
  have hfi := h3.hfi
  have H4 := Lib.hid ((h3.setT fi hfi (catB s x ahead)).setAt 0 (.inr rfl))
  have ho := Lib.hid (((Only.of_below hb7 : Only (· = b) w w3).setB fi (.string (catB s x ahead))).setB 63 (.int .i64 0))
  have HR := Lib.hid (ringL_head ts fi L.length (catB s x ahead) h3.len hfi hn (Nat.le_trans h3.hn h3.hm1))
  clear h3 h2 h DX hl1 hl2 hle hle2 w1
  cases ahead
  · simp only [show catB s x false = x ++ s from rfl] at c63 z63
    go_wp2_with fail
    go_ret
    have hlen : ∀ y : ByteArray, (y :: L.tail).length = L.length := fun y => by simp; omega
    exact ⟨rfl, ⟨_, fi, by rw [hlen]; exact H4.out, by rw [hlen, HR.out, ← HE.out]⟩, ho.out⟩
  · simp only [show catB s x true = s ++ x from rfl] at c63 z63
    go_wp2_with fail
    go_ret
    have hlen : ∀ y : ByteArray, (y :: L.tail).length = L.length := fun y => by simp; omega
    exact ⟨rfl, ⟨_, fi, by rw [hlen]; exact H4.out, by rw [hlen, HR.out, ← HE.out]⟩, ho.out⟩

/-- Handed back: a slice of the call's own that holds L. -/
def SlPost (w : World) (L : List ByteArray) (e : Ending) (w' : World) : Prop := ∃ v, e = .returned v ∧ ROwn encStr 9 1 w.heap.size w' v L ∧ Below w.heap.size w w'
theorem Ring.place (h : Ring w b L most at_) (i : Nat) (hi : i < L.length) : ∃ p : Nat, p < 60 ∧ Calls Tryz.prog 41 #[.pointer (some ⟨b, 0, none⟩), .int .i64 i] w (fun e w' => e = .returned (.int .i64 p) ∧ w = w') ∧ w.cell? ⟨b, p, none⟩ = some (.string (L.getD i ByteArray.empty)) := by
  have hl := h.len
  obtain ⟨ts, fi, h, e⟩ := h
  refine ⟨(fi + i) % 60, Nat.mod_lt _ (by omega), rplace h i (by omega), ?_⟩
  have := h.str i
  rw [ringT_L e hi] at this
  exact h.tx _ _ this
set_option maxRecDepth 100000 in
set_option maxHeartbeats 1000000 in
theorem Ring.all (h : Ring w b L most at_) : Calls Tryz.prog 22 #[.pointer (some ⟨b, 0, none⟩)] w (SlPost w L) := by
  have hl := h.len
  have c61 : w.cell? ⟨b, 61, none⟩ = some (.int .i64 L.length) := by obtain ⟨ts, fi, h, e⟩ := h; exact h.c61
  go_enter Tryz.func22, Tryz.ntmps22
  go_wp2_with fail
  refine h.none_no.mono ?_
  rintro e w' ⟨rfl, rfl⟩
  go_wp2_with fail
  go_loopw [3, 11] (fun vo vi wr => ∃ k : Nat, k ≤ L.length ∧ vi = .int .i64 k ∧ ROwn encStr 9 1 w.heap.size wr vo (L.take k) ∧ Below w.heap.size w wr) (fun _ vi _ => L.length - (intOf vi).toNat)
  case atStart => exact ⟨0, by omega, rfl, ROwn.nil _ _, Below.refl _ _⟩
  case round =>
    obtain ⟨k, hk, rfl, hown, hbel⟩ := hrel
    by_cases hlt : k < L.length
    · have h2 := h.up hbel
      obtain ⟨p, hp, hpl, hcp⟩ := (h2.kept (w' := wr.drew) rfl).place k hlt
      have htk : L.take (k + 1) = L.take k ++ [L.getD k ByteArray.empty] := by
        rw [List.take_succ_eq_append_getElem hlt, List.getD_eq_getElem?_getD, List.getElem?_eq_getElem hlt]; rfl
      have HT := Lib.hid htk
      have HPL := Lib.hid hpl
      obtain ⟨x, hx⟩ : ∃ x, L.getD k ByteArray.empty = x := ⟨_, rfl⟩
      rw [hx] at hcp HT
      have DX : ∀ y : UpW wr.heap.size wr, y.w.cell? ⟨b, p, none⟩ = some (.string x) := fun y => (y.up.cell (p := ⟨b, p, none⟩) h2.lt).trans hcp
      have q0 : (0 : Int) ≤ p := by omega
      have q1 : (p : Int) < 60 := by omega
      have hlt' : (k : Int) < L.length := by omega
      clear htk hpl hx hcp
      go_wp2_with fail
      refine wp_region_mix wr.heap.size 10 [([0, 1, 2, 3, 5, 6], 4), ([7, 8], 9)] [] (by kernel_rfl) (fun c d v a w h => by cases d <;> exact h) (by kernel_rfl) ?_
      simp only [wpMix, pk_nil, pk_cons, pushAt_zero, pushAt_succ, List.drop_succ_cons, List.drop_zero]
      repeat (go_big_quiet_step (fail))
      refine wpQuiet_nil ?_
      go_wp2_with fail
      refine HPL.out.mono ?_
      rintro e w' ⟨rfl, rfl⟩
      go_wp2_with fail
      refine thenQ_normal ⟨⟨⟨_, (Below.refl _ _).drew⟩, rfl⟩, ?_⟩
      repeat (go_big_quiet_step (fail))
      refine wpQuiet_nil ?_
      go_wp2_with fail
      refine thenQ_normal ⟨⟨⟨_, ((Below.refl wr.heap.size wr).drew).alloc (Nat.le_refl _) _⟩, rfl⟩, ?_⟩
      refine wpQuiet_nil ?_
      have hbd : Below wr.heap.size wr wr.drew := (Below.refl _ _).drew
      obtain ⟨v', w', happ, hown', hb', _⟩ := append_elem eltStr (hown.up hbd) hbel.size x (by simp; omega) (by omega)
      rw [← HT.out] at hown'
      have HP := Lib.hid happ
      clear happ DX
      go_wp2_with (at_builtin; refine wpList_app_run rfl _ _ _ rfl rfl rfl HP.out ?_)
      go_roundw
      case rel => exact ⟨k + 1, by omega, by go_num, hown', (up2 hbel hbd).trans hb'⟩
      case measure => simp [intOf]; omega
    · have hkn : k = L.length := by omega
      subst hkn
      rw [List.take_length] at hown
      go_wp2_with fail
      go_ret
      exact ⟨_, rfl, hown, hbel⟩

theorem RingAt.row (h : RingAt w b ts fi n most at_) : ∃ cs T fr, w.heap[b]? = some (.cells cs T fr) ∧ cs.size = 64 ∧ cs.all (·.oneCell') = true := by
  obtain ⟨cs, T, fr, hb, hs⟩ := h.blk
  have hc : ∀ j, cs[j]? = w.cell? ⟨b, j, none⟩ := fun j => (cell_of_row w b j cs T fr hb).symm
  refine ⟨cs, T, fr, hb, hs, ?_⟩
  rw [Array.all_eq_true]
  intro j hj
  have hj' : cs[j]? = some cs[j] := Array.getElem?_eq_getElem hj
  rw [hc] at hj'
  by_cases h60 : j < 60
  · have := h.tx j _ (List.getElem?_eq_getElem (by rw [h.len]; exact h60))
    rw [this] at hj'
    rw [← Option.some.inj hj']; rfl
  · obtain rfl | rfl | rfl | rfl : j = 60 ∨ j = 61 ∨ j = 62 ∨ j = 63 := by omega
    · rw [h.c60] at hj'; rw [← Option.some.inj hj']; rfl
    · rw [h.c61] at hj'; rw [← Option.some.inj hj']; rfl
    · rw [h.c62] at hj'; rw [← Option.some.inj hj']; rfl
    · rw [h.c63] at hj'; rw [← Option.some.inj hj']; rfl
theorem ring_copy (h : RingAt w b ts fi n most at_) {cs : Array Value} {T : TypeId} {fr : Nat × Nat} (hb : w.heap[b]? = some (.cells cs T fr)) (hs : cs.size = 64) (T' : TypeId) : RingAt (w.alloc (.cells cs T')) w.heap.size ts fi n most at_ := by
  have e := (MapKept.heap_alloc w (.cells cs T')).1
  have hc : ∀ j, (w.alloc (.cells cs T')).cell? ⟨w.heap.size, j, none⟩ = w.cell? ⟨b, j, none⟩ := fun j => by rw [cell_of_row _ _ j cs T' (0, 0) e, cell_of_row w b j cs T fr hb]
  refine ⟨h.len, fun i s hs => by rw [hc]; exact h.tx i s hs, by rw [hc]; exact h.c60, by rw [hc]; exact h.c61, by rw [hc]; exact h.c62, by rw [hc]; exact h.c63, fun i hi => ?_, h.hfi, h.hn, h.hm0, h.hm1, h.hat, ⟨cs, T', _, e, hs⟩⟩
  simp only [World.frozen?, e]
  simp only [Nat.not_lt_zero, decide_false, Bool.and_false]
/-- Handed back by Copy: a ring of its own. -/
def CopyPost (w : World) (L : List ByteArray) (most at_ : Nat) (e : Ending) (w' : World) : Prop := ∃ b', e = .returned (.pointer (some ⟨b', 0, none⟩)) ∧ w.heap.size ≤ b' ∧ Ring w' b' L most at_ ∧ Below w.heap.size w w'
end
end Go.Proofs.YtnbccoelbfgmgaaGreatDoor
