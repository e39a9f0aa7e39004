/- Package kill: a ring as a list of strings, the newest first; Kill. -/
import Derived.Test.YtaofcnmajicpcaaGreatDoorKrF
import Derived.BigRegion
import Derived.RegionTactic
import Derived.ChangeAlike
namespace Go.Proofs.YtaofcnmajicpcaaGreatDoor
open Go.RowKit
set_option linter.unusedVariables false
set_option linter.unusedSimpArgs false
section
variable {w w' : World} {b : Nat} {ts : List ByteArray} {fi n most at_ : Nat}
def ringL (ts : List ByteArray) (fi n : Nat) : List ByteArray := (List.range n).map (ringT ts fi)
theorem ringL_length (ts : List ByteArray) (fi n : Nat) : (ringL ts fi n).length = n := by simp [ringL]
theorem ringL_at (ts : List ByteArray) (fi n i : Nat) (h : i < n) : (ringL ts fi n)[i]? = some (ringT ts fi i) := by
  simp [ringL, h]
theorem ringT_set_same (ts : List ByteArray) (fi k : Nat) (s : ByteArray) (hl : ts.length = 60) (hk : k = fi % 60) : ringT (ts.set k s) fi 0 = s := by
  subst hk
  unfold ringT
  rw [Nat.add_zero, List.getD_eq_getElem?_getD, List.getElem?_set_self (by rw [hl]; exact Nat.mod_lt _ (by omega))]
  rfl
theorem ringT_set_ne (ts : List ByteArray) (fi k i : Nat) (s : ByteArray) (hk : k ≠ (fi + i) % 60) : ringT (ts.set k s) fi i = ringT ts fi i := by
  unfold ringT
  rw [List.getD_eq_getElem?_getD, List.getElem?_set_ne hk, List.getD_eq_getElem?_getD]
theorem ringL_kill (ts : List ByteArray) (fi n most : Nat) (s : ByteArray) (hl : ts.length = 60) (hfi : fi < 60) (hn : n ≤ most) (hm : most ≤ 60) (h1 : 1 ≤ most) :
    ringL (ts.set (kFi fi) s) (kFi fi) (min (n + 1) most) = (s :: ringL ts fi n).take most := by
  apply List.ext_getElem?
  intro i
  by_cases hi : i < min (n + 1) most
  · rw [ringL_at _ _ _ _ hi, List.getElem?_take_of_lt (by omega)]
    rcases i with _ | i
    · rw [ringT_set_same _ _ _ _ hl (by unfold kFi; omega)]; rfl
    · rw [List.getElem?_cons_succ, ringL_at _ _ _ _ (by omega), ringT_set_ne _ _ _ _ _ (by unfold kFi; omega)]
      unfold ringT kFi
      congr 2; omega
  · rw [List.getElem?_eq_none (by rw [ringL_length]; omega), List.getElem?_eq_none (by simp [ringL_length]; omega)]
/-- The ring at block b holds the strings L, the newest first; it has room for most; the string at hand is number at_. -/
def Ring (w : World) (b : Nat) (L : List ByteArray) (most at_ : Nat) : Prop := ∃ ts fi, RingAt w b ts fi L.length most at_ ∧ L = ringL ts fi L.length
variable {L : List ByteArray}
theorem Ring.lt (h : Ring w b L most at_) : b < w.heap.size := by obtain ⟨ts, fi, h, _⟩ := h; exact h.lt
theorem Ring.up (h : Ring w b L most at_) (hb : Below w.heap.size w w') : Ring w' b L most at_ := by obtain ⟨ts, fi, h, e⟩ := h; exact ⟨ts, fi, h.up hb, e⟩
theorem Ring.kept (h : Ring w b L most at_) (hb : w'.heap[b]? = w.heap[b]?) : Ring w' b L most at_ := by obtain ⟨ts, fi, h, e⟩ := h; exact ⟨ts, fi, h.kept hb, e⟩
theorem Ring.len (h : Ring w b L most at_) : L.length ≤ most ∧ 1 ≤ most ∧ most ≤ 60 ∧ (at_ < L.length ∨ at_ = 0) := by obtain ⟨ts, fi, h, e⟩ := h; exact ⟨h.hn, h.hm0, h.hm1, h.hat⟩
theorem ringT_L {i : Nat} (e : L = ringL ts fi L.length) (hi : i < L.length) : ringT ts fi i = L.getD i ByteArray.empty := by
  have h := ringL_at ts fi L.length i hi
  rw [← e] at h
  rw [List.getD_eq_getElem?_getD, h]; rfl

theorem Only.setB {a c : World} {b : Nat} (h : Only (· = b) a c) (o : Nat) (u : Value) : Only (· = b) a (c.setCell ⟨b, o, none⟩ u) := h.setCell (p := ⟨b, o, none⟩) (show (⟨b, o, none⟩ : Addr).block = b from rfl) u
/-- Handed back by Yank and Pop. -/
def TakePost (w : World) (b : Nat) (L : List ByteArray) (most k : Nat) (e : Ending) (w' : World) : Prop :=
  e = .returned (.tuple #[.string (L.getD k ByteArray.empty), .int .i64 0]) ∧ Ring w' b L most k ∧ Only (· = b) w w'
theorem Ring.yank (h : Ring w b L most at_) (hn : 0 < L.length) (k : Int) : Calls Tryz.prog 23 #[.pointer (some ⟨b, 0, none⟩), .int .i64 k] w (TakePost w b L most (turnTo L.length at_ (k.tmod L.length - 1))) := by
  obtain ⟨ts, fi, h, e⟩ := h
  have hk := turnTo_lt L.length at_ (k.tmod L.length - 1) hn
  refine (yank_ok h hn k).mono ?_
  rintro e' w' ⟨rfl, hr, ho⟩
  exact ⟨by rw [ringT_L e hk], ⟨ts, fi, hr, e⟩, ho⟩
theorem Ring.pop (h : Ring w b L most at_) (hn : 0 < L.length) (k : Int) : Calls Tryz.prog 24 #[.pointer (some ⟨b, 0, none⟩), .int .i64 k] w (TakePost w b L most (turnTo L.length at_ (k.tmod L.length))) := by
  obtain ⟨ts, fi, h, e⟩ := h
  have hk := turnTo_lt L.length at_ (k.tmod L.length) hn
  refine (pop_ok h hn k).mono ?_
  rintro e' w' ⟨rfl, hr, ho⟩
  exact ⟨by rw [ringT_L e hk], ⟨ts, fi, hr, e⟩, ho⟩
def NonePost (w : World) (e : Ending) (w' : World) : Prop := e = .returned (.tuple #[.string ⟨#[]⟩, .int .i64 13]) ∧ w = w'
theorem Ring.yank0 (h : Ring w b [] most at_) (k : Int) : Calls Tryz.prog 23 #[.pointer (some ⟨b, 0, none⟩), .int .i64 k] w (NonePost w) := by
  obtain ⟨ts, fi, h, e⟩ := h
  exact yank_end h k
theorem Ring.pop0 (h : Ring w b [] most at_) (k : Int) : Calls Tryz.prog 24 #[.pointer (some ⟨b, 0, none⟩), .int .i64 k] w (NonePost w) := by
  obtain ⟨ts, fi, h, e⟩ := h
  exact pop_end h k
def RingPost (w : World) (b : Nat) (L : List ByteArray) (most at_ err : Nat) (e : Ending) (w' : World) : Prop := e = .returned (.int .i64 err) ∧ Ring w' b L most at_ ∧ Only (· = b) w w'

set_option maxHeartbeats 1000000 in
theorem Ring.kill_bad {N : Nat} (h : Ring w b L most at_) (s : ByteArray) (hs : s.size ≤ 1000000000) (hT : Tabs N w) (hv : vld s = false) : Calls Tryz.prog 22 #[.pointer (some ⟨b, 0, none⟩), .string s] w (RingPost w b L most at_ 5) := by
  obtain ⟨ts, fi, h, e⟩ := h
  have hV := valid_any s w hs hT
  rw [hv] at hV
  have HV := Lib.hid hV
  have HE := Lib.hid e
  clear hV hv e
  go_enter Tryz.func22, Tryz.ntmps22
  go_wp2_with fail
  refine (rnone_no h).mono ?_
  rintro e w' ⟨rfl, rfl⟩
  go_wp2_with fail
  refine HV.out.mono ?_
  rintro e w' ⟨rfl, hb⟩
  go_wp2_with fail
  go_ret
  exact ⟨rfl, ⟨ts, fi, h.up hb, HE.out⟩, .of_below hb⟩
set_option maxRecDepth 100000 in
set_option maxHeartbeats 1000000 in
theorem Ring.kill_ok {N : Nat} (h : Ring w b L most at_) (s : ByteArray) (hs : s.size ≤ 1000000000) (hT : Tabs N w) (hv : vld s = true) : Calls Tryz.prog 22 #[.pointer (some ⟨b, 0, none⟩), .string s] w (RingPost w b ((s :: L).take most) most 0 0) := by
  obtain ⟨ts, fi, h, e⟩ := h
  have hV := valid_any s w hs hT
  rw [hv] at hV
  have HV := Lib.hid hV
  have HE := Lib.hid e
  clear hV hv e
  go_enter Tryz.func22, Tryz.ntmps22
  go_wp2_with fail
  refine (rnone_no h).mono ?_
  rintro e w' ⟨rfl, rfl⟩
  go_wp2_with fail
  refine HV.out.mono ?_
  rintro e w1 ⟨rfl, hb⟩
  have h1 := h.up hb
  go_wp2_with fail
  refine (rplace h1 59 (by omega)).mono ?_
  rintro e w' ⟨rfl, rfl⟩
  have HTS := Lib.hid h1.len
  have HFI := Lib.hid h1.hfi
  have hkl : kFi fi < 60 := Nat.mod_lt _ (by omega)
  rw [show (fi + 59) % 60 = kFi fi from rfl]
  have H2 := Lib.hid (h1.setFi (kFi fi) hkl)
  have c60 := h1.c60
  have z60 := h1.fz 60 (by omega)
  have ho1 : Only (· = b) w (w1.setCell ⟨b, 60, none⟩ (.int .i64 (kFi fi))) := (Only.of_below hb).setB _ _
  generalize hk : kFi fi = k at *
  have HK := Lib.hid hk
  clear hk
  go_wp2_with fail
  generalize w1.setCell ⟨b, 60, none⟩ (.int .i64 k) = W1 at *
  clear h1 c60 z60 h
  have hr := H2.out
  have C60 : ∀ x : UpW W1.heap.size W1, x.w.cell? ⟨b, 60, none⟩ = some (.int .i64 k) := fun x => (x.up.cell (p := ⟨b, 60, none⟩) hr.lt).trans hr.c60
  have q0 : (0 : Int) ≤ k := by omega
  have q1 : (k : Int) < 60 := by omega
  obtain ⟨s0, hs0⟩ : ∃ s0, ts[k]? = some s0 := ⟨_, List.getElem?_eq_getElem (by rw [hr.len]; exact hkl)⟩
  have cK := hr.tx k s0 hs0
  have zK := hr.fz k (by omega)
  clear hr hs0
  refine wp_region_mix W1.heap.size 9 [] [0, 1, 2, 3, 4, 5, 6, 7, 8] (by kernel_rfl) (fun c d v a w h => by cases d <;> exact h) (by kernel_rfl) ?_
  simp only [wpMix, pk_nil, pk_cons, pushAt_zero, pushAt_succ, List.drop_succ_cons, List.drop_zero]
  repeat (go_big_quiet_step (fail))
  refine wpQuiet_nil ?_
  go_wp2_with fail
  have H3 : RingAt (W1.setCell ⟨b, k, none⟩ (.string s)).drew b (ts.set k s) k L.length most at_ := ((H2.out.setT k hkl s).kept rfl)
  have ho2 : Only (· = b) w (W1.setCell ⟨b, k, none⟩ (.string s)).drew := (ho1.setB _ _).drew
  generalize (W1.setCell ⟨b, k, none⟩ (.string s)).drew = W2 at *
  clear C60 cK zK ho1 H2
  have H3' := Lib.hid H3
  have C61 : ∀ x : UpW W2.heap.size W2, x.w.cell? ⟨b, 61, none⟩ = some (.int .i64 L.length) := fun x => (x.up.cell (p := ⟨b, 61, none⟩) H3.lt).trans H3.c61
  have C62 : ∀ x : UpW W2.heap.size W2, x.w.cell? ⟨b, 62, none⟩ = some (.int .i64 most) := fun x => (x.up.cell (p := ⟨b, 62, none⟩) H3.lt).trans H3.c62
  have w1 : IntKind.i64.wrap ((L.length : Int) + 1) = (L.length : Int) + 1 := IntWalk.i64_in _ (by have := H3.hn; have := H3.hm1; omega)
  have c61 := H3.c61
  have z61 := H3.fz 61 (by omega)
  have c62 := H3.c62
  have c63 := H3.c63
  have z63 := H3.fz 63 (by omega)
  have hn := H3.hn
  have hm0 := H3.hm0
  have hm1 := H3.hm1
  clear H3
  clear C61 C62
  go_region
  go_wp2_with fail
  go_ret
  have e1 : min ((L.length : Int) + 1) most = (min (L.length + 1) most : Nat) := by omega
  have hlen : ((s :: L).take most).length = min (L.length + 1) most := by simp; omega
  have hat := H3'.out.hat
  rw [e1]
  refine ⟨rfl, ⟨_, _, by rw [hlen]; exact (((H3'.out.setN (min (L.length + 1) most) (by omega) (by omega)).setAt 0 (.inr rfl)).kept rfl), ?_⟩, ((ho2.setB _ _).setB _ _).drew⟩
  have hr := ringL_kill ts fi L.length most s HTS.out HFI.out hn hm1 hm0
  rw [HK.out] at hr
  rw [hlen, hr, ← HE.out]
end
end Go.Proofs.YtaofcnmajicpcaaGreatDoor
