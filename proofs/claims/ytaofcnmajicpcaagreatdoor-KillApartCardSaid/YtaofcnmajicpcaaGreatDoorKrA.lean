/- Package kill: a ring in memory; none, place, check, New, turn, Yank, Pop. -/
import Derived.Test.YtaofcnmajicpcaaGreatDoorMix
import Derived.IntWalk
namespace Go.Proofs.YtaofcnmajicpcaaGreatDoor
open Go.RowKit
set_option linter.unusedVariables false

/-- Block b holds n cells. -/
def Blk (w : World) (b n : Nat) : Prop := ∃ cs T fr, w.heap[b]? = some (.cells cs T fr) ∧ cs.size = n
theorem Blk.kept {w w' : World} {b n : Nat} (h : Blk w b n) (hb : w'.heap[b]? = w.heap[b]?) : Blk w' b n := by obtain ⟨cs, T, fr, h, e⟩ := h; exact ⟨cs, T, fr, hb.trans h, e⟩
theorem Blk.set {w : World} {b n : Nat} (h : Blk w b n) (o : Nat) (u : Value) : Blk (w.setCell ⟨b, o, none⟩ u) b n := by
  obtain ⟨cs, T, fr, h, e⟩ := h
  exact ⟨cs.setIfInBounds o u, T, fr, by simp [World.setCell, Array.getElem?_modify, h], by simpa using e⟩
/-- The ring at block b: its 60 strings, the newest one's place, how many there are, the capacity, the current one. -/
structure RingAt (w : World) (b : Nat) (ts : List ByteArray) (fi n most at_ : Nat) : Prop where
  len : ts.length = 60
  tx : ∀ (i : Nat) (s : ByteArray), ts[i]? = some s → w.cell? ⟨b, i, none⟩ = some (.string s)
  c60 : w.cell? ⟨b, 60, none⟩ = some (.int .i64 fi)
  c61 : w.cell? ⟨b, 61, none⟩ = some (.int .i64 n)
  c62 : w.cell? ⟨b, 62, none⟩ = some (.int .i64 most)
  c63 : w.cell? ⟨b, 63, none⟩ = some (.int .i64 at_)
  fz : ∀ i, i < 64 → w.frozen? ⟨b, i, none⟩ = false
  hfi : fi < 60
  hn : n ≤ most
  hm0 : 1 ≤ most
  hm1 : most ≤ 60
  hat : at_ < n ∨ at_ = 0
  blk : Blk w b 64
section
variable {w w' : World} {b : Nat} {ts : List ByteArray} {fi n most at_ : Nat}
theorem RingAt.lt (h : RingAt w b ts fi n most at_) : b < w.heap.size := lt_of_cell h.c60
theorem RingAt.kept (h : RingAt w b ts fi n most at_) (hb : w'.heap[b]? = w.heap[b]?) : RingAt w' b ts fi n most at_ :=
  ⟨h.len, fun i s hs => (World.cell?_of_block (w := w) (a := ⟨b, i, none⟩) hb).trans (h.tx i s hs), (World.cell?_of_block (w := w) (a := ⟨b, 60, none⟩) hb).trans h.c60, (World.cell?_of_block (w := w) (a := ⟨b, 61, none⟩) hb).trans h.c61, (World.cell?_of_block (w := w) (a := ⟨b, 62, none⟩) hb).trans h.c62, (World.cell?_of_block (w := w) (a := ⟨b, 63, none⟩) hb).trans h.c63,
   fun i hi => (World.frozen?_of_block (w := w) (a := ⟨b, i, none⟩) hb).trans (h.fz i hi), h.hfi, h.hn, h.hm0, h.hm1, h.hat, h.blk.kept hb⟩
theorem RingAt.up (h : RingAt w b ts fi n most at_) (hb : Below w.heap.size w w') : RingAt w' b ts fi n most at_ := h.kept (hb.block b h.lt)
theorem RingAt.setAt (h : RingAt w b ts fi n most at_) (k : Nat) (hk : k < n ∨ k = 0) : RingAt (w.setCell ⟨b, 63, none⟩ (.int .i64 k)) b ts fi n most k := by
  have hlt : ∀ (i : Nat) (s : ByteArray), ts[i]? = some s → i < 60 := fun i s hs => by have := (List.getElem?_eq_some_iff.1 hs).1; have := h.len; omega
  refine ⟨h.len, fun i s hs => ?_, ?_, ?_, ?_, ?_, fun i hi => by rw [World.frozen?_setCell]; exact h.fz i hi, h.hfi, h.hn, h.hm0, h.hm1, hk, h.blk.set _ _⟩
  · rw [World.cell?_setCell_other _ _ _ _ (by have := hlt i s hs; simp <;> omega)]; exact h.tx i s hs
  · rw [World.cell?_setCell_other _ _ _ _ (by simp)]; exact h.c60
  · rw [World.cell?_setCell_other _ _ _ _ (by simp)]; exact h.c61
  · rw [World.cell?_setCell_other _ _ _ _ (by simp)]; exact h.c62
  · exact World.cell?_setCell_same' _ _ _ (by rw [h.c63]; rfl)
/-- The i-th newest string. -/
def ringT (ts : List ByteArray) (fi i : Nat) : ByteArray := ts.getD ((fi + i) % 60) ByteArray.empty
theorem RingAt.str (h : RingAt w b ts fi n most at_) (i : Nat) : ts[(fi + i) % 60]? = some (ringT ts fi i) := by
  have : (fi + i) % 60 < ts.length := by rw [h.len]; omega
  unfold ringT
  rw [List.getD_eq_getElem?_getD, List.getElem?_eq_getElem this]; rfl

set_option maxHeartbeats 400000 in
theorem rnone_no (h : RingAt w b ts fi n most at_) : Calls Tryz.prog 33 #[.pointer (some ⟨b, 0, none⟩)] w fun e w' => e = .returned (.bool false) ∧ w = w' := by
  have c := h.c62
  have hz : ((most : Int) == 0) = false := by have := h.hm0; simp; omega
  go_enter Tryz.func33, Tryz.ntmps33
  go_wp2
  go_ret
  exact ⟨rfl, rfl⟩
set_option maxHeartbeats 400000 in
theorem rplace (h : RingAt w b ts fi n most at_) (i : Nat) (hi : i ≤ 1000) : Calls Tryz.prog 34 #[.pointer (some ⟨b, 0, none⟩), .int .i64 i] w fun e w' => e = .returned (.int .i64 ((fi + i) % 60 : Nat)) ∧ w = w' := by
  have c := h.c60
  have hf := h.hfi
  go_enter Tryz.func34, Tryz.ntmps34
  go_wp2
  go_ret
  exact ⟨ret_int (by omega), rfl⟩
set_option maxHeartbeats 400000 in
theorem rcheck_ok (h : RingAt w b ts fi n most at_) (hn : 0 < n) : Calls Tryz.prog 48 #[.pointer (some ⟨b, 0, none⟩)] w fun e w' => e = .returned (.int .i64 0) ∧ w = w' := by
  have c := h.c61
  have hz : ((n : Int) == 0) = false := by simp; omega
  go_enter Tryz.func48, Tryz.ntmps48
  go_wp2_with (go_at_call 33; refine (rnone_no h).mono ?_; rintro e w' ⟨rfl, rfl⟩)
  go_ret
  exact ⟨rfl, rfl⟩
set_option maxHeartbeats 400000 in
theorem rcheck_end (h : RingAt w b ts fi 0 most at_) : Calls Tryz.prog 48 #[.pointer (some ⟨b, 0, none⟩)] w fun e w' => e = .returned (.int .i64 13) ∧ w = w' := by
  have c := h.c61
  go_enter Tryz.func48, Tryz.ntmps48
  go_wp2_with (go_at_call 33; refine (rnone_no h).mono ?_; rintro e w' ⟨rfl, rfl⟩)
  go_ret
  exact ⟨rfl, rfl⟩

/-- Where the current one goes. -/
def turnTo (n at_ : Nat) (by_ : Int) : Nat := (((at_ : Int) + by_) % n).toNat
theorem turn_reckon (n at_ : Nat) (by_ : Int) (hn : 0 < n) (h1 : -(n : Int) ≤ by_) (h2 : by_ < n) (hat : at_ < n) : ((((at_ : Int) + by_).tmod n) + n).tmod n = (turnTo n at_ by_ : Nat) := by
  unfold turnTo
  have hp : (0 : Int) < n := by omega
  have hnn := Int.emod_nonneg ((at_ : Int) + by_) (by omega : (n : Int) ≠ 0)
  rw [Int.toNat_of_nonneg hnn]
  by_cases hs : 0 ≤ (at_ : Int) + by_
  · rw [Int.tmod_eq_emod_of_nonneg hs, Int.tmod_eq_emod_of_nonneg (by omega), Int.add_emod_right, Int.emod_emod_of_dvd _ (Int.dvd_refl _)]
  · have e : ((at_ : Int) + by_).tmod n = -((-((at_ : Int) + by_)) % n) := by
      have := Int.neg_tmod (-((at_ : Int) + by_)) n
      rw [Int.neg_neg] at this
      rw [this, Int.tmod_eq_emod_of_nonneg (by omega)]
    rw [e]
    have hm0 := Int.emod_nonneg (-((at_ : Int) + by_)) (by omega : (n : Int) ≠ 0)
    have hm1 := Int.emod_lt_of_pos (-((at_ : Int) + by_)) hp
    rw [Int.tmod_eq_emod_of_nonneg (by omega), Int.add_emod_right]
    have hd : (-((at_ : Int) + by_)) = n * ((-((at_ : Int) + by_)) / n) + (-((at_ : Int) + by_)) % n := (Int.mul_ediv_add_emod _ _).symm
    have e2 : (at_ : Int) + by_ = -((-((at_ : Int) + by_)) % n) + n * (-((-((at_ : Int) + by_)) / n)) := by
      rw [Int.mul_neg]; omega
    conv => rhs; rw [e2]
    rw [Int.add_mul_emod_self_left]
theorem turnTo_lt (n at_ : Nat) (by_ : Int) (hn : 0 < n) : turnTo n at_ by_ < n := by
  unfold turnTo
  have := Int.emod_lt_of_pos ((at_ : Int) + by_) (by omega : (0 : Int) < n)
  have := Int.emod_nonneg ((at_ : Int) + by_) (by omega : (n : Int) ≠ 0)
  omega
theorem tmod_bd (a : Int) (n : Nat) (hn : 0 < n) : -(n : Int) < a.tmod n ∧ a.tmod n < n := by
  have h1 := Int.tmod_lt_of_pos a (by omega : (0 : Int) < n)
  have h2 := Int.tmod_lt_of_pos (-a) (by omega : (0 : Int) < n)
  rw [Int.neg_tmod] at h2
  omega

def TurnPost (w : World) (b : Nat) (ts : List ByteArray) (fi n most k : Nat) (e : Ending) (w' : World) : Prop :=
  e = .returned (.tuple #[.string (ringT ts fi k), .int .i64 0]) ∧ RingAt w' b ts fi n most k ∧ Only (· = b) w w'
set_option maxRecDepth 100000 in
set_option maxHeartbeats 1000000 in
theorem rturn (h : RingAt w b ts fi n most at_) (hn : 0 < n) (by_ : Int) (h1 : -(n : Int) ≤ by_) (h2 : by_ < n) : Calls Tryz.prog 49 #[.pointer (some ⟨b, 0, none⟩), .int .i64 by_] w (TurnPost w b ts fi n most (turnTo n at_ by_)) := by
  have hat : at_ < n := by rcases h.hat with h | h <;> omega
  have hn60 : n ≤ 60 := Nat.le_trans h.hn h.hm1
  have hrk := turn_reckon n at_ by_ hn h1 h2 hat
  have hkl := turnTo_lt n at_ by_ hn
  obtain ⟨t1, t2⟩ := tmod_bd ((at_ : Int) + by_) n hn
  generalize turnTo n at_ by_ = k at *
  have C1 : ∀ x : UpW w.heap.size w, x.w.cell? ⟨b, 61, none⟩ = some (.int .i64 n) := fun x => (x.up.cell (p := ⟨b, 61, none⟩) h.lt).trans h.c61
  have C3 : ∀ x : UpW w.heap.size w, x.w.cell? ⟨b, 63, none⟩ = some (.int .i64 at_) := fun x => (x.up.cell (p := ⟨b, 63, none⟩) h.lt).trans h.c63
  have w1 : IntKind.i64.wrap ((at_ : Int) + by_) = (at_ : Int) + by_ := IntWalk.i64_in _ (by omega)
  have w2 : IntKind.i64.wrap (((at_ : Int) + by_).tmod n + n) = ((at_ : Int) + by_).tmod n + n := IntWalk.i64_in _ (by omega)
  have hnz : ((n : Int) == 0) = false := by simp; omega
  have hd := h.c63
  have hz := h.fz 63 (by omega)
  have HS : RingAt (w.setCell ⟨b, 63, none⟩ (.int .i64 k)).drew b ts fi n most k := (h.setAt k (.inl hkl)).kept rfl
  have hrk' : (((at_ : Int) + by_).tmod n + n) % n = k := by rw [← Int.tmod_eq_emod_of_nonneg (by omega)]; exact hrk
  have HRK := Lib.hid hrk'
  have HH := Lib.hid HS
  clear hrk hrk'
  go_enter Tryz.func49, Tryz.ntmps49
  go_wp2_with fail
  refine wp_region_mix w.heap.size 24 [] [0, 1, 2, 3, 4, 5, 6, 7, 8, 9, 10, 11, 12, 13, 14, 15, 16, 17, 18, 19, 20, 21, 22, 23] (by kernel_rfl) (fun c d v a w h => by cases d <;> exact h) (by kernel_rfl) ?_
  simp only [wpMix, pk_nil, pk_cons, pushAt_zero, pushAt_succ, List.drop_succ_cons, List.drop_zero]
  repeat (go_big_quiet_step (fail))
  refine wpQuiet_nil ?_
  clear C1 C3 w1 w2
  rw [HRK.out]
  have hob : Only (· = b) w (w.setCell ⟨b, 63, none⟩ (.int .i64 k)).drew := ((Only.refl (· = b) w).setCell (p := ⟨b, 63, none⟩) (show b = b from rfl) _).drew
  go_wp2_with fail
  generalize (w.setCell ⟨b, 63, none⟩ (.int .i64 k)).drew = W1 at *
  have hr := HH.out
  have hst := hr.str k
  have hp : (fi + k) % 60 < 60 := Nat.mod_lt _ (by omega)
  have hpl := rplace (HH.out.kept (w' := W1.drew) rfl) k (by omega)
  generalize (fi + k) % 60 = p at *
  have D3 : ∀ x : UpW W1.heap.size W1, x.w.cell? ⟨b, 63, none⟩ = some (.int .i64 k) := fun x => (x.up.cell (p := ⟨b, 63, none⟩) hr.lt).trans hr.c63
  have DP : ∀ x : UpW W1.heap.size W1, x.w.cell? ⟨b, p, none⟩ = some (.string (ringT ts fi k)) := fun x => (x.up.cell (p := ⟨b, p, none⟩) hr.lt).trans (hr.tx p _ hst)
  have q0 : (0 : Int) ≤ p := by omega
  have q1 : (p : Int) < 60 := by omega
  have HPL := Lib.hid hpl
  clear hr hst hpl hd hz
  refine wp_region_mix W1.heap.size 13 [([0, 1, 2, 3, 4, 5, 7, 8], 6)] [9, 10, 11, 12] (by kernel_rfl) (fun c d v a w h => by cases d <;> exact h) (by kernel_rfl) ?_
  simp only [wpMix, pk_nil, pk_cons, pushAt_zero, pushAt_succ, List.drop_succ_cons, List.drop_zero]
  repeat (go_big_quiet_step (fail))
  refine wpQuiet_nil ?_
  go_wp2_with fail
  refine HPL.out.mono ?_
  rintro e w' ⟨rfl, rfl⟩
  go_wp2_with fail
  refine thenQ_normal ⟨⟨⟨_, (Below.refl _ _).drew⟩, rfl⟩, ?_⟩
  repeat (go_big_quiet_step (fail))
  refine wpQuiet_nil ?_
  go_wp2_with fail
  go_ret2
  exact ⟨rfl, HH.out.kept rfl, hob.drew⟩

set_option maxHeartbeats 1000000 in
theorem yank_ok (h : RingAt w b ts fi n most at_) (hn : 0 < n) (k : Int) : Calls Tryz.prog 23 #[.pointer (some ⟨b, 0, none⟩), .int .i64 k] w (TurnPost w b ts fi n most (turnTo n at_ (k.tmod n - 1))) := by
  have hn60 : n ≤ 60 := Nat.le_trans h.hn h.hm1
  obtain ⟨t1, t2⟩ := tmod_bd k n hn
  have c1 := h.c61
  have hnz : ((n : Int) == 0) = false := by simp; omega
  have hc := rturn h hn (k.tmod n - 1) (by omega) (by omega)
  have HC := Lib.hid hc
  clear hc
  go_enter Tryz.func23, Tryz.ntmps23
  go_wp2_with (go_at_call 48; refine (rcheck_ok h hn).mono ?_; rintro e w' ⟨rfl, rfl⟩)
  refine HC.out.mono ?_
  rintro e w' ⟨rfl, hr, ho⟩
  go_wp2_with fail
  go_ret2
  exact ⟨rfl, hr, ho⟩
set_option maxHeartbeats 1000000 in
theorem yank_end (h : RingAt w b ts fi 0 most at_) (k : Int) : Calls Tryz.prog 23 #[.pointer (some ⟨b, 0, none⟩), .int .i64 k] w fun e w' => e = .returned (.tuple #[.string ⟨#[]⟩, .int .i64 13]) ∧ w = w' := by
  go_enter Tryz.func23, Tryz.ntmps23
  go_wp2_with (go_at_call 48; refine (rcheck_end h).mono ?_; rintro e w' ⟨rfl, rfl⟩)
  go_ret2
  exact ⟨rfl, rfl⟩

set_option maxHeartbeats 1000000 in
theorem pop_ok (h : RingAt w b ts fi n most at_) (hn : 0 < n) (k : Int) : Calls Tryz.prog 24 #[.pointer (some ⟨b, 0, none⟩), .int .i64 k] w (TurnPost w b ts fi n most (turnTo n at_ (k.tmod n))) := by
  have hn60 : n ≤ 60 := Nat.le_trans h.hn h.hm1
  obtain ⟨t1, t2⟩ := tmod_bd k n hn
  have c1 := h.c61
  have hnz : ((n : Int) == 0) = false := by simp; omega
  have hc := rturn h hn (k.tmod n) (by omega) (by omega)
  have HC := Lib.hid hc
  clear hc
  go_enter Tryz.func24, Tryz.ntmps24
  go_wp2_with (go_at_call 48; refine (rcheck_ok h hn).mono ?_; rintro e w' ⟨rfl, rfl⟩)
  refine HC.out.mono ?_
  rintro e w' ⟨rfl, hr, ho⟩
  go_wp2_with fail
  go_ret2
  exact ⟨rfl, hr, ho⟩
set_option maxHeartbeats 1000000 in
theorem pop_end (h : RingAt w b ts fi 0 most at_) (k : Int) : Calls Tryz.prog 24 #[.pointer (some ⟨b, 0, none⟩), .int .i64 k] w fun e w' => e = .returned (.tuple #[.string ⟨#[]⟩, .int .i64 13]) ∧ w = w' := by
  go_enter Tryz.func24, Tryz.ntmps24
  go_wp2_with (go_at_call 48; refine (rcheck_end h).mono ?_; rintro e w' ⟨rfl, rfl⟩)
  go_ret2
  exact ⟨rfl, rfl⟩
end
end Go.Proofs.YtaofcnmajicpcaaGreatDoor
