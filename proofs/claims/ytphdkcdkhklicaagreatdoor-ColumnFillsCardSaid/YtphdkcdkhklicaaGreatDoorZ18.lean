import Derived.Test.YtphdkcdkhklicaaGreatDoorZ00
import Derived.IntWalk
import Derived.Test.YtphdkcdkhklicaaGreatDoorZ16
import Derived.Test.YtphdkcdkhklicaaGreatDoorZ17
import Derived.Test.YtphdkcdkhklicaaGreatDoorZ15
import Derived.Test.YtphdkcdkhklicaaGreatDoorZ10
import Derived.Test.YtphdkcdkhklicaaGreatDoorZ04
import Derived.Laws.EntriesVeiled
import Derived.Test.YtphdkcdkhklicaaGreatDoorLayK
import Derived.Test.YtphdkcdkhklicaaGreatDoorZ13
/- copyistkit.Pick. -/
namespace Go.Proofs.YtphdkcdkhklicaaGreatDoor
open Go.RowKit
set_option linter.unusedVariables false
set_option linter.unusedSimpArgs false
/-- What copyistkit.Pick hands back. -/
def pickI (n most : Int) : Int := if most ≤ 0 then 0 else n % most
theorem pick_pos (n most : Int) (h : 0 < most) : 0 ≤ pickI n most ∧ pickI n most < most := by
  unfold pickI; rw [if_neg (by omega)]; exact ⟨Int.emod_nonneg _ (by omega), Int.emod_lt_of_pos _ h⟩

set_option maxHeartbeats 400000 in
theorem pick_any (n most : Int) (w : World) (h1 : 0 < most) (h2 : most ≤ 1000000) :
    Calls Tryz.prog 9 #[.int .i64 n, .int .i64 most] w fun e w' => e = .returned (.int .i64 (pickI n most)) ∧ w = w' := by
  have e1 : pickI n most = if n.tmod most < 0 then n.tmod most + most else n.tmod most := by
    unfold pickI
    rw [if_neg (by omega), Int.emod_eq_tmod]
    have hn : (most.natAbs : Int) = most := by omega
    by_cases h0 : 0 ≤ n
    · have := Int.tmod_nonneg most h0
      rw [if_pos (.inl h0), if_neg (by omega)]; omega
    · have hle : n.tmod most ≤ 0 := by
        have := Int.tmod_nonneg most (a := -n) (by omega)
        rw [Int.neg_tmod] at this; omega
      by_cases hd : most ∣ n
      · have := Int.tmod_eq_zero_of_dvd hd
        rw [if_pos (.inr hd), this]; simp
      · have hne : n.tmod most ≠ 0 := fun h => hd (Int.dvd_of_tmod_eq_zero h)
        rw [if_neg (by simp [hd]; omega), if_pos (by omega), hn]
  have b1 : -most < n.tmod most := by have := Int.lt_tmod_of_pos n h1; omega
  have b2 : n.tmod most < most := Int.tmod_lt_of_pos n h1
  have H1 := Lib.hid e1
  clear e1
  have hz : ¬ most = 0 := by omega
  by_cases hneg : n.tmod most < 0
  all_goals
    go_enter Tryz.func9, Tryz.ntmps9
    go_wp2
    go_ret
    exact ⟨ret_int (by rw [H1.out]; first | rw [if_pos (by omega)] | rw [if_neg (by omega)]), rfl⟩
end Go.Proofs.YtphdkcdkhklicaaGreatDoor
/- copyistlaw24: light; of, at a plain buffer. -/
namespace Go.Proofs.YtphdkcdkhklicaaGreatDoor
open Go.RowKit Go.Lib
set_option linter.unusedVariables false
set_option linter.unusedSimpArgs false
abbrev freshT (t m p o l : Nat) (lock : Int) : Tx := ⟨freshS t m p o l lock, [], [], [], -1⟩
/-- A buffer that holds a string, its group closed. -/
def withT (t m p o l : Nat) (lock : Int) (s : List Nat) : Tx := shutT (insT (freshT t m p o l lock) s false)
/-- What of hands over. -/
structure OfT (T : Tx) (cs : List Nat) : Prop where
  cs : T.cs = cs
  wide : Wide T
  empty : T.S.empty = true
  o : T.O = []
  g : ∀ g ∈ T.G, g.length ≤ 3
  ch : T.ch = -1
theorem shutT_wide {T : Tx} (h : Wide T) : Wide (shutT T) := ⟨h.lo, h.hi, h.ro⟩
theorem withT_of (t m p o l : Nat) (lock : Int) (s : List Nat) : OfT (withT t m p o l lock s) s := by
  have hw : Wide (freshT t m p o l lock) := ⟨rfl, rfl, rfl⟩
  have h1 : (freshT t m p o l lock).S.pt = 1 := rfl
  refine ⟨?_, shutT_wide (hw.ins (by rw [h1]; omega) (by rw [h1]; show 1 ≤ 0 + 1; omega)), rfl, rfl, ?_, ?_⟩
  · show (insT (freshT t m p o l lock) s false).cs = s
    show (putT (freshT t m p o l lock) 1 s false).cs = s
    rw [putT_cs]; unfold insC; simp
  · intro g hg
    by_cases h0 : s.length = 0
    · have e : (withT t m p o l lock s).G = [] := by
        show logShut (putT (freshT t m p o l lock) 1 s false).G (putT (freshT t m p o l lock) 1 s false).O = []
        unfold putT; rw [if_pos h0]; rfl
      rw [e] at hg; simp at hg
    · have e : (withT t m p o l lock s).G = [notePre (freshS t m p o l lock) ++ [insChg 1 s.length]] := by
        show logShut (putT (freshT t m p o l lock) 1 s false).G (putT (freshT t m p o l lock) 1 s false).O = _
        unfold putT; rw [if_neg h0]
        show logShut [] (noteO (freshS t m p o l lock) [] (insChg 1 s.length)) = _
        rw [noteO_first rfl]
        unfold logShut; rw [if_neg (by simp)]; rfl
      rw [e, List.mem_singleton] at hg
      subst hg
      have := (npre_ok (freshS t m p o l lock) []).2.2.2
      simp; omega
  · show (putT (freshT t m p o l lock) 1 s false).ch = -1
    unfold putT; split <;> rfl
section
variable {w w' : World} {N : Nat}
theorem fitsE_fresh {s : ByteArray} (hs : s.size ≤ 10000) (hv : (charsD s.data.toList).isSome = true) : fitsE s 0 0 = 0 := by
  have := chrs_len s
  unfold fitsE
  rw [vld_chars, if_pos hv, rlenG_chars hv, if_neg (by simp; omega)]
set_option maxHeartbeats 2000000 in
theorem ofX_ok (hT : Tabs N w) (hR : Rules N w) (hN : N ≤ w.heap.size) (s : ByteArray) (hs : s.size ≤ 10000) (hv : (charsD s.data.toList).isSome = true) :
    Calls Tryz.prog 8 #[.string s] w fun r w' => ∃ b T, r = .returned (.tuple #[pAt b, .bool true]) ∧ Below w.heap.size w w' ∧
      PB N w' b (fun k => w.heap.size ≤ k ∧ k < w'.heap.size) T 5 ∧ OfT T (chrs s) := by
  have HT := Lib.hid hT
  have HR := Lib.hid hR
  clear hT hR
  go_enter Tryz.func8, Tryz.ntmps8
  go_wp2_with fail
  refine (bufNewX HT.out hN 1 2 3).mono ?_
  rintro e w1 ⟨b, t, l, m, p, o, rfl, hb1, hp1⟩
  have B1 := Lib.hid hb1
  have P1 := Lib.hid hp1
  have z1 := hb1.size
  have HI := Lib.hid (bInsert (HT.out.up hb1) (HR.out.up hb1) hp1 (by omega) rfl s (by omega))
  clear hb1 hp1
  have hf := fitsE_fresh hs hv
  have HI2 := HI.out
  simp only [List.length_nil, hf, if_true] at HI2
  have HV := Lib.hid hv
  have HJ := Lib.hid HI2
  clear HI HI2 hf hv
  go_wp2_with fail
  refine HJ.out.mono ?_
  rintro e w2 ⟨rfl, ho2, hp2⟩
  have P2 := Lib.hid (hp2.bound)
  have O2 := Lib.hid (ho2.below z1 (fun k hk => hk.1))
  have HBd := Lib.hid (bBoundary P2.out (by omega))
  have z2 := ho2.size
  clear hp2 ho2 HJ
  go_wp2_with fail
  refine HBd.out.mono ?_
  rintro e w3 ⟨rfl, ho3, hp3⟩
  have P3 := Lib.hid hp3.bound
  have O3 := Lib.hid (ho3.below (by omega : w.heap.size ≤ w2.heap.size) (fun k hk => hk.1.elim (fun e => e.1) (fun e => by omega)))
  clear hp3 ho3 HBd
  go_wp2_with fail
  go_ret2
  refine ⟨b, withT t m p o l 3 (chrs s), rfl, (B1.out.trans O2.out).trans O3.out, ?_, withT_of _ _ _ _ _ _ _⟩
  have hp := P3.out
  refine PB.mono (B := 0 + 4 + 1) hp (fun k hk => ⟨?_, hk.2⟩) (by decide)
  exact hk.1.elim (fun e => e.1.elim (fun q => q.1) (fun q => by omega)) (fun e => by omega)
def lightB (s : ByteArray) : Bool := decide (s.size ≤ 120) && vld s
set_option maxHeartbeats 1000000 in
theorem light_ok (s : ByteArray) (w : World) : Calls Tryz.prog 7 #[.string s] w fun r w' => r = .returned (.bool (lightB s)) ∧ Below w.heap.size w w' := by
  by_cases h : s.size ≤ 120
  · have HV := Lib.hid (rvalid_any s w (by omega))
    have e : lightB s = vld s := by unfold lightB; rw [decide_eq_true h]; rfl
    have d : decide ((s.size : Int) ≤ 120) = true := decide_eq_true (by omega)
    rw [e]
    clear e h
    go_enter Tryz.func7, Tryz.ntmps7
    go_wp2_with fail
    refine HV.out.mono ?_
    rintro e w1 ⟨rfl, hb1⟩
    have B1 := Lib.hid hb1
    clear hb1
    go_wp2_with fail
    go_ret
    exact ⟨rfl, B1.out⟩
  · have e : lightB s = false := by unfold lightB; rw [decide_eq_false h]; rfl
    have d : decide ((s.size : Int) ≤ 120) = false := decide_eq_false (by omega)
    rw [e]
    clear e h
    go_enter Tryz.func7, Tryz.ntmps7
    go_wp2_with fail
    go_ret
    exact ⟨rfl, Below.refl _ w⟩
/-- The tick. -/
theorem ptick {b : Nat} {F : Nat → Prop} {T : Tx} {B : Nat} (h : PB N w b F T B) : Calls Tryz.prog 28 #[pAt b] w fun r w' => r = .returned (.int .i64 T.S.tick) ∧ w = w' := by
  have HN := Lib.hid (bnoneB h.blk)
  have c7 : w.cell? ⟨b, 7, none⟩ = some (.int .i64 T.S.tick) := h.blk.cell (j := 7) rfl
  clear h
  go_enter Tryz.func28, Tryz.ntmps28
  go_wp2_with fail
  refine HN.out.mono ?_
  rintro e w1 ⟨rfl, rfl⟩
  go_wp2_with fail
  go_ret
  exact ⟨rfl, rfl⟩
end
/-- A buffer made since B0: its blocks lie from B0 on, and nothing below turned since w. -/
structure St (N : Nat) (w : World) (B0 b : Nat) (w' : World) (T : Tx) (B : Nat) : Prop where
  bl : Below B0 w w'
  pb : PB N w' b (fun k => B0 ≤ k) T B
  sz : B0 ≤ w'.heap.size
section
variable {w w1 w2 : World} {N B0 b B1 B2 : Nat} {T1 T2 : Tx}
theorem St.next (h : St N w B0 b w1 T1 B1) (k : Only (fun k => B0 ≤ k) w1 w2 ∧ PB N w2 b (grow (fun k => B0 ≤ k) w1.heap.size) T2 B2) : St N w B0 b w2 T2 B2 :=
  ⟨h.bl.trans (k.1.below h.sz (fun k hk => hk)), k.2.mono (fun k hk => hk.elim id (fun e => by have := h.sz; omega)) (Nat.le_refl _), by have := k.1.size; have := h.sz; omega⟩
theorem St.same (h : St N w B0 b w1 T1 B1) (k : Only (fun k => B0 ≤ k) w1 w2 ∧ PB N w2 b (fun k => B0 ≤ k) T2 B2) : St N w B0 b w2 T2 B2 :=
  ⟨h.bl.trans (k.1.below h.sz (fun k hk => hk)), k.2, by have := k.1.size; have := h.sz; omega⟩
theorem St.up (h : St N w B0 b w1 T1 B1) (k : Below w1.heap.size w1 w2) : St N w B0 b w2 T1 B1 :=
  ⟨h.bl.trans (k.mono h.sz), h.pb.up k, by have := k.size; have := h.sz; omega⟩
theorem St.tabs (h : St N w B0 b w1 T1 B1) (hN : N ≤ B0) (hw : B0 ≤ w.heap.size) (hT : Tabs N w) : Tabs N w1 := Tabs.only hT (S := fun k => B0 ≤ k) ⟨h.bl.os, h.bl.tape, h.bl.output, by have := h.bl.size; omega, fun i hi hs => h.bl.block i (by omega)⟩ (fun k hk => Nat.le_trans hN hk)
theorem St.rules (h : St N w B0 b w1 T1 B1) (hN : N ≤ B0) (hw : B0 ≤ w.heap.size) (hR : Rules N w) : Rules N w1 := Rules.only hR (Z := fun k => B0 ≤ k) ⟨h.bl.os, h.bl.tape, h.bl.output, by have := h.bl.size; omega, fun i hi hs => h.bl.block i (by omega)⟩ (fun k hk => Nat.le_trans hN hk)
set_option maxHeartbeats 1000000 in
/-- Undoing the last group gives the text back. -/
theorem undo_back {G : List (List Chg)} {g : List Chg} {cs : List Nat} (h : St N w B0 b w1 T2 B2) (hN : N ≤ B0) (hw : B0 ≤ w.heap.size) (hT : Tabs N w) (hR : Rules N w) (hB : B2 ≤ 100000) (hG : logShut T2.G T2.O = G ++ [g]) (hGl : ∀ x ∈ G, x.length ≤ 100000) (hgl : g.length ≤ 100000) (hch : T2.ch = -1) (hro : T2.S.ro = false) (hok : RevsOkC T2.cs g.reverse) (heq : g.reverse.foldl revCs T2.cs = cs) (hc : revsC g.reverse ≤ 300000) :
    Calls Tryz.prog 30 #[pAt b, .bool false] w1 fun r w' => r = .returned (.int .i64 0) ∧ ∃ T3, T3.cs = cs ∧ St N w B0 b w' T3 (B2 + 300002) := by
  have hl : (logShut T2.G T2.O).length = G.length + 1 := by rw [hG]; simp
  have hu := bUndo (h.tabs hN hw hT) (h.rules hN hw hR) h.pb (fun k hk => Nat.le_trans hN hk) (d := 300000) (by omega) (by
    rw [hG]; intro x hx
    rw [List.mem_append, List.mem_singleton] at hx
    rcases hx with hx | rfl
    · exact Nat.le_trans (hGl x hx) (by omega)
    · omega) false (by rw [hch]; omega) hro (by
    intro m' x hcx hx
    rw [hl] at hcx
    have hm : m' = G.length := by
      have h2 : ((G.length + 1 : Nat) : Int) = ((m' + 1 : Nat) : Int) := hcx
      omega
    subst hm
    rw [hG, List.getElem?_append_right (Nat.le_refl _), Nat.sub_self] at hx
    cases hx
    exact ⟨revs_of _ _ hok, hc⟩)
  refine hu.mono ?_
  rintro r w' ⟨h1, ⟨hc0, _⟩ | ⟨m', x, hcx, hx, rfl, hp⟩⟩
  · rw [hl] at hc0
    exact absurd (show ((G.length + 1 : Nat) : Int) = 0 from hc0) (by omega)
  · rw [hl] at hcx
    have hm : m' = G.length := by
      have h2 : ((G.length + 1 : Nat) : Int) = ((m' + 1 : Nat) : Int) := hcx
      omega
    subst hm
    rw [hG, List.getElem?_append_right (Nat.le_refl _), Nat.sub_self] at hx
    cases hx
    refine ⟨rfl, _, ?_, h.next ⟨h1, hp⟩⟩
    show (revsT _ g.reverse).cs = cs
    rw [revsT_cs]; exact heq
end
end Go.Proofs.YtphdkcdkhklicaaGreatDoor
/- ColumnIndents: the plain law. -/
namespace Go.Proofs.YtphdkcdkhklicaaGreatDoor
open Go.RowKit Go.Lib
set_option linter.unusedVariables false
set_option linter.unusedSimpArgs false
theorem lenR_chrs' (s : ByteArray) : lenR s = (chrs s).length := rfl
theorem repT_newC (T : Tx) {x y : Nat} {I : List Nat} (h1 : 1 ≤ x) (hxy : x ≤ y) (hy : y ≤ T.cs.length + 1) : (repT T x y I).cs = newC T.cs x y I := by
  unfold repT
  rw [putT_cs, takeT_cs]
  unfold insC delC newC
  have e1 : (T.cs.take (x - 1)).length = x - 1 := by simp; omega
  rw [List.take_append_of_le_length (by omega), List.drop_append_of_le_length (by omega), List.take_take, Nat.min_self, List.drop_take_self, List.nil_append, List.append_assoc]
theorem repT_ch (T : Tx) (x y : Nat) (I : List Nat) : (repT T x y I).ch = T.ch := by
  unfold repT putT takeT
  split <;> split <;> rfl
theorem encS_inj {a b : List Nat} (ha : ∀ c ∈ a, isN c) (hb : ∀ c ∈ b, isN c) (h : encS a = encS b) : a = b := by
  have := congrArg chrs h
  rwa [(chrs_encS ha).1, (chrs_encS hb).1] at this
/-- Undoing it gives the text back. -/
structure BackT (T2 : Tx) (cs : List Nat) (g : List Chg) : Prop where
  ok : RevsOkC T2.cs g.reverse
  eq : g.reverse.foldl revCs T2.cs = cs
  cost : revsC g.reverse ≤ 5020
  len : g.length ≤ 4
/-- What the law needs. -/
structure IndL (T : Tx) (k col tab : Nat) (tabs : Bool) (x y z : Nat) (hd ld tl tx : ByteArray) (T2 : Tx) : Prop where
  x1 : 1 ≤ x
  xk : x ≤ k
  xy : x ≤ y
  yn : y ≤ T.cs.length + 1
  hx : lineB T.cs T.S.lo k = x
  hy : indN T.cs (lineB T.cs T.S.lo k) (lineE T.cs T.S.hi k) = y
  hhd : textV T (1 : Int) (x : Int) = hd
  ehd : delE T (1 : Int) (x : Int) = 0
  hld : textV T (x : Int) (y : Int) = ld
  eld : delE T (x : Int) (y : Int) = 0
  htl : textV T (y : Int) ((T.cs.length : Int) + 1) = tl
  etl : delE T (y : Int) ((T.cs.length : Int) + 1) = 0
  bl : ∀ (i : Nat) (h : i < ld.size), (ld[i].toNat : Int) = 32 ∨ (ld[i].toNat : Int) = 9
  tb : tl = ⟨#[]⟩ ∨ ∃ (q : 0 < tl.size), ¬ (tl[0].toNat : Int) = 32 ∧ ¬ (tl[0].toNat : Int) = 9
  htx : indT col tab tabs = tx
  ht2 : sindT T k col tab tabs = T2
  w2 : Wide T2
  l2 : T2.cs.length ≤ 3000
  xz : x ≤ z
  zn : z ≤ T2.cs.length + 1
  hx2 : lineB T2.cs T2.S.lo x = x
  hz2 : indN T2.cs x (lineE T2.cs T2.S.hi x) = z
  hz3 : lineB T2.cs T2.S.lo z = x
  hcol : colN widN T2.cs tab x z = col
  all : encS T2.cs = hd ++ tx ++ tl
  len : x + lenR tx = z
  same : sindT T2 x col tab tabs = T2
  sp : tabs = false → ∀ (i : Nat) (h : i < tx.size), (tx[i].toNat : Int) = 32
  ch : T2.ch = T.ch
  un : ld = tx ∨ ¬ ld = tx ∧ ∃ g, logShut T2.G T2.O = T.G ++ [g] ∧ BackT T2 T.cs g
  z1 : hd.size ≤ 4000
  z2 : ld.size ≤ 4000
  z3 : tl.size ≤ 4000
  z4 : tx.size ≤ 4000
theorem ind_law {T : Tx} (hw : Wide T) (he : T.S.empty = true) (hO : T.O = []) (hcn : ∀ c ∈ T.cs, isN c) (hlen : T.cs.length ≤ 200) {k col tab : Nat} (tabs : Bool) (hk1 : 1 ≤ k) (hk2 : k ≤ T.cs.length + 1) (hc : col ≤ 1000) (ht : 1 ≤ tab) :
    ∃ x y z hd ld tl tx T2, IndL T k col tab tabs x y z hd ld tl tx T2 := by
  have hlo := hw.lo
  have hhi := hw.hi
  obtain ⟨x, hx⟩ : ∃ x, x = lineB T.cs 1 k := ⟨_, rfl⟩
  obtain ⟨y, hy⟩ : ∃ y, y = indN T.cs (lineB T.cs 1 k) (lineE T.cs (T.cs.length + 1) k) := ⟨_, rfl⟩
  have b1 : 1 ≤ lineB T.cs 1 k := lineB_ge k
  have b2 : lineB T.cs 1 k ≤ k := lineB_le k hk1
  have e1 : k ≤ lineE T.cs (T.cs.length + 1) k := lineE_ge k
  have e2 : lineE T.cs (T.cs.length + 1) k ≤ T.cs.length + 1 := lineE_le k hk2
  have e3 := lineE_at (cs := T.cs) (hi := T.cs.length + 1) k hk2
  obtain ⟨q1, q2, q3, q4⟩ := indN_is T.cs (b := lineB T.cs 1 k) (e := lineE T.cs (T.cs.length + 1) k) (by omega)
  rw [← hy] at q1 q2 q3 q4
  have hia : indA T k = x := by unfold indA; rw [hlo, hx]
  have hiz : indZ T k = y := by unfold indZ; rw [hlo, hhi, hy]
  obtain ⟨n1, n2, n3⟩ := ind_new (I := indC col tab tabs) hk1 hk2 hx hy (indC_blank col tab tabs)
  rw [← hx] at b1 b2 q1 q3
  have hyn : y ≤ T.cs.length + 1 := by omega
  have ncol := ind_col (cs := T.cs) (x := x) (y := y) (col := col) (tab := tab) (tabs := tabs) ht b1 (by omega)
  have nsub := newC_sub (cs := T.cs) (I := indC col tab tabs) (x := x) (y := y) b1 (by omega)
  have nlen := newC_len (cs := T.cs) (I := indC col tab tabs) (x := x) (y := y) b1 q1 hyn
  have ilen := indC_len col tab tabs
  have hrx : ∀ a c : Nat, 1 ≤ a → a ≤ c → c ≤ T.cs.length + 1 → textV T (a : Int) (c : Int) = encS (subL T.cs a c) ∧ delE T (a : Int) (c : Int) = 0 := fun a c g1 g2 g3 => by
    have hr : reachB T.S (a : Int) (c : Int) = true := reach_iff.2 (by rw [hlo, hhi]; omega)
    exact ⟨by unfold textV; rw [if_pos hr]; rfl, by unfold delE; rw [if_pos hr]⟩
  have hsi := subL_isN hcn x y
  have hsl := subL_len (cs := T.cs) b1 hyn
  -- the new text
  have h2cs : (sindT T k col tab tabs).cs = newC T.cs x y (indC col tab tabs) := by
    unfold sindT
    rw [hia, hiz]
    split
    · rename_i h
      rw [← encS_indC] at h
      rw [← encS_inj hsi (indC_isN col tab tabs) h, newC_self b1 q1 hyn]
    · exact repT_newC T b1 q1 hyn
  have h2w : Wide (sindT T k col tab tabs) := by
    unfold sindT
    rw [hia, hiz]
    split
    · exact hw
    · exact hw.rep b1 q1 hyn
  have h2ch : (sindT T k col tab tabs).ch = T.ch := by
    unfold sindT
    split
    · rfl
    · exact repT_ch _ _ _ _
  have hl2 := h2w.lo
  have hh2 := h2w.hi
  obtain ⟨T2, hT2⟩ : ∃ T2, T2 = sindT T k col tab tabs := ⟨_, rfl⟩
  rw [← hT2] at h2cs h2w h2ch hl2 hh2
  have f1 : lineB T2.cs T2.S.lo x = x := by rw [hl2, h2cs, n1]
  have f2 : indN T2.cs x (lineE T2.cs T2.S.hi x) = x + (indC col tab tabs).length := by rw [hh2, h2cs, n2]
  refine ⟨x, y, x + (indC col tab tabs).length, encS (subL T.cs 1 x), encS (subL T.cs x y), encS (subL T.cs y (T.cs.length + 1)), indT col tab tabs, T2, ?_⟩
  have hallq : encS T2.cs = encS (subL T.cs 1 x) ++ indT col tab tabs ++ encS (subL T.cs y (T.cs.length + 1)) := by
    rw [← encS_indC, encS_append, encS_append, h2cs, subL_head, subL_tail _ (by omega)]
    unfold newC; rw [List.append_assoc]
  refine { x1 := b1, xk := b2, xy := q1, yn := hyn, hx := by rw [hlo, hx], hy := by rw [hlo, hhi, hy], hhd := (hrx 1 x (by omega) b1 (by omega)).1, ehd := (hrx 1 x (by omega) b1 (by omega)).2, hld := (hrx x y b1 q1 hyn).1, eld := (hrx x y b1 q1 hyn).2, htl := (hrx y _ (by omega) hyn (Nat.le_refl _)).1, etl := (hrx y _ (by omega) hyn (Nat.le_refl _)).2, bl := ?_, tb := ?_, htx := rfl, ht2 := hT2.symm, w2 := h2w, l2 := by rw [h2cs, nlen]; omega, xz := by omega, zn := by rw [h2cs, nlen]; omega, hx2 := f1, hz2 := f2, hz3 := by rw [hl2, h2cs, n3], hcol := by rw [h2cs, ncol], all := hallq, len := ?_, same := ?_, sp := ?_, ch := h2ch, un := ?_, z1 := ?_, z2 := ?_, z3 := ?_, z4 := ?_ }
  · intro i hi
    refine blank_byte (fun c hcm => ?_) i hi
    obtain ⟨j, hj, e⟩ := List.getElem_of_mem hcm
    rw [hsl] at hj
    have hq := q3 (x + j) (by omega) (by omega)
    have : chr T.cs (x + j) = c := by
      have e' : (subL T.cs x y)[j]? = some c := by rw [List.getElem?_eq_getElem (by omega), e]
      unfold subL at e'
      rw [List.getElem?_take, if_pos (by omega), List.getElem?_drop] at e'
      unfold chr
      rw [List.getD_eq_getElem?_getD, show x + j - 1 = x - 1 + j by omega, e']; rfl
    rw [this] at hq; exact hq
  · by_cases hlt : y = T.cs.length + 1
    · left
      rw [hlt]; unfold subL; simp; rfl
    · right
      have hnb : ¬ (chr T.cs y = 32 ∨ chr T.cs y = 9) := by
        rcases q4 with a | a
        · rcases e3 with c | ⟨_, c⟩
          · omega
          · rw [a, c]; omega
        · exact a
      have hdr : subL T.cs y (T.cs.length + 1) = chr T.cs y :: T.cs.drop y := by
        rw [subL_tail _ (by omega), List.drop_eq_getElem_cons (show y - 1 < T.cs.length by omega), show y - 1 + 1 = y by omega]
        unfold chr
        rw [List.getD_eq_getElem?_getD, List.getElem?_eq_getElem (by omega)]; rfl
      have hcy : isN (chr T.cs y) := hcn _ (chr_mem (by omega) (by omega))
      rw [hdr]; exact tail_byte hcy hnb
  · rw [lenR_chrs', (chrs_indT col tab tabs).1]
  · have hia2 : indA T2 x = x := f1
    have hiz2 : indZ T2 x = x + (indC col tab tabs).length := by unfold indZ; rw [f1]; exact f2
    unfold sindT
    rw [hia2, hiz2, h2cs, nsub, encS_indC, if_pos rfl]
  · intro htb i hi
    subst htb
    have e : indT col tab false = repB 32 col := by
      unfold indT tabsN
      rw [if_neg (by simp), Nat.zero_mul, Nat.sub_zero]
      exact bytes_ext (by simp [repB])
    revert hi
    rw [e]
    intro hi
    exact rep_byte col i hi
  · by_cases hld : encS (subL T.cs x y) = indT col tab tabs
    · exact .inl hld
    · refine .inr ⟨hld, ?_⟩
      have hrep : T2 = repT T x y (indC col tab tabs) := by rw [hT2]; unfold sindT; rw [hia, hiz, if_neg hld]
      have hne : ¬ (x = y ∧ indC col tab tabs = []) := fun ⟨g1, g2⟩ => hld (by
        rw [← encS_indC, g2, List.eq_nil_of_length_eq_zero (show (subL T.cs x y).length = 0 by omega)])
      obtain ⟨g, g1, g2, g3, g4, g5⟩ := undo_rep he hO b1 q1 hyn hcn (by omega) (by omega) hne
      rw [← hrep] at g1 g3 g4
      exact ⟨g, g1, ⟨g3, g4, by omega, g2⟩⟩
  · have := encS_le (subL T.cs 1 x); have := subL_len (cs := T.cs) (x := 1) (y := x) (by omega) (by omega); omega
  · have := encS_le (subL T.cs x y); omega
  · have := encS_le (subL T.cs y (T.cs.length + 1)); have := subL_len (cs := T.cs) (x := y) (y := T.cs.length + 1) (by omega) (by omega); omega
  · have := indT_size col tab tabs; omega
end Go.Proofs.YtphdkcdkhklicaaGreatDoor
/- package syntax: the table of Lisp is made. -/
namespace Go.Proofs.YtphdkcdkhklicaaGreatDoor
open Go.RowKit
set_option linter.unusedVariables false
set_option linter.unusedSimpArgs false
abbrev encE (x : Int × Int) : Value := .agg #[.int .i64 x.1, .int .i64 x.2]
theorem mapTE : Tryz.prog.underlying 76 = some (.map 3 75) := Tryz.underlying76
theorem keyTE : Tryz.prog.underlying 3 = some (.int .i64) := Tryz.underlying3
theorem zeroE (w : World) : (zeroValue 75).run Tryz.prog w = .ok (encE (0, 0)) w := by kernel_rfl
/-- The characters that are special in Lisp. -/
def specL : List (Int × (Int × Int)) := putM (putM (putM (putM (putM (putM (putM (putM (putM (putM (putM [] 40 (4, 41)) 41 (5, 40)) 91 (4, 93)) 93 (5, 91)) 34 (6, 0)) 92 (7, 0)) 59 (8, 0)) 10 (9, 0)) 39 (10, 0)) 96 (10, 0)) 44 (10, 0)
/-- The table of Lisp at block tb. -/
structure LspT (w : World) (tb bs ms mo : Nat) : Prop where
  blk : Blk w tb 81 #[.func (.func 39) #[] #[pAt bs], .map (some mo)]
  cell : Blk w bs 76 #[.map (some ms)]
  spec : IM w ms encE specL
  own : IM w mo encE []
section
variable {w w' : World} {tb bs ms mo : Nat}
theorem LspT.up (h : LspT w tb bs ms mo) (hb : Below w.heap.size w w') : LspT w' tb bs ms mo := ⟨h.blk.up hb, h.cell.up hb, h.spec.kept (hb.block _ h.spec.lt), h.own.kept (hb.block _ h.own.lt)⟩
theorem LspT.only {S : Nat → Prop} (h : LspT w tb bs ms mo) (ho : Only S w w') (h1 : ¬ S tb) (h2 : ¬ S bs) (h3 : ¬ S ms) (h4 : ¬ S mo) : LspT w' tb bs ms mo := ⟨h.blk.only ho h1, h.cell.only ho h2, h.spec.kept (ho.block _ h.spec.lt h3), h.own.kept (ho.block _ h.own.lt h4)⟩
set_option maxHeartbeats 1000000 in
theorem synNew (w : World) : Calls Tryz.prog 38 #[] w fun e w' => e = .returned (pAt (w.heap.size + 1)) ∧ Below w.heap.size w w' ∧ w'.heap.size = w.heap.size + 2 ∧ Blk w' (w.heap.size + 1) 81 #[.func (.func 41) #[] #[], .map (some w.heap.size)] ∧ IM w' w.heap.size encE [] := by
  have hmm := @run_makeMap Tryz.prog
  go_enter Tryz.func38, Tryz.ntmps38
  go_wp2_with fail
  go_ret
  have h0 : (w.alloc (.map #[] 0)).heap.size = w.heap.size + 1 := by simp
  have hk := Blk.made (w.alloc (.map #[] 0)) 81 #[.func (.func 41) #[] #[], .map (some w.heap.size)]
  rw [h0] at hk
  refine ⟨rfl, below2 w _ _, by simp, hk, [], 0, ⟨?_, List.nodup_nil, List.nodup_nil, fun x hx => by cases hx⟩, rfl⟩
  exact ((MapKept.heap_alloc (w.alloc (.map #[] 0)) _).2 _ (by simp)).trans (MapKept.heap_alloc w _).1
set_option maxRecDepth 100000 in
set_option maxHeartbeats 4000000 in
theorem synLisp (w : World) : Calls Tryz.prog 11 #[] w fun e w' => ∃ tb bs ms mo, e = .returned (pAt tb) ∧ Below w.heap.size w w' ∧ LspT w' tb bs ms mo := by
  have hmm := @run_makeMap Tryz.prog
  have HM := Lib.hid hmm
  clear hmm
  go_enter Tryz.func11, Tryz.ntmps11
  go_wp2_with fail
  refine (synNew w).mono ?_
  rintro e w1 ⟨rfl, hb1, hs1, hk1, him1⟩
  have hs1' : w.heap.size + 2 ≤ w1.heap.size := Nat.le_of_eq hs1.symm
  clear hs1
  have im0 : IM (w1.alloc (.map #[] 0)) w1.heap.size encE [] := ⟨[], 0, ⟨(MapKept.heap_alloc w1 _).1, List.nodup_nil, List.nodup_nil, fun x hx => by cases hx⟩, rfl⟩
  have zz0 : (w1.alloc (.map #[] 0)).heap.size = w1.heap.size + 1 := by simp
  have hal := below1 w1 (.map #[] 0)
  have K0 := hk1.up hal
  have O0 := him1.kept (hal.block _ him1.lt)
  have b0 : Below w.heap.size w (w1.alloc (.map #[] 0)) := up2 hb1 hal
  obtain ⟨W0, hW0⟩ : ∃ W0, w1.alloc (.map #[] 0) = W0 := ⟨_, rfl⟩
  have HW := Lib.hid hW0
  have hmk := fun t => HM.out t w1
  simp only [hW0] at hmk
  rw [hW0] at im0 zz0 K0 O0 b0
  clear hW0 hal him1 hk1 hb1
  obtain ⟨W1, r0, im1, g0, y0⟩ := im0.store (P := Tryz.prog) mapTE keyTE 40 (4, 41)
  have b1 := b0.grown g0 b0.size (fun k hk => by have hk := Option.some.inj hk; omega)
  have zz1 : W1.heap.size = w1.heap.size + 1 := y0.trans zz0
  have K1 := K0.kept (g0.block _ (by omega) (by intro e; have e := Option.some.inj e; omega))
  have O1 := O0.kept (g0.block _ (by omega) (by intro e; have e := Option.some.inj e; omega))
  clear im0 g0 y0 b0 zz0 K0 O0
  obtain ⟨W2, r1, im2, g1, y1⟩ := im1.store (P := Tryz.prog) mapTE keyTE 41 (5, 40)
  have b2 := b1.grown g1 b1.size (fun k hk => by have hk := Option.some.inj hk; omega)
  have zz2 : W2.heap.size = w1.heap.size + 1 := y1.trans zz1
  have K2 := K1.kept (g1.block _ (by omega) (by intro e; have e := Option.some.inj e; omega))
  have O2 := O1.kept (g1.block _ (by omega) (by intro e; have e := Option.some.inj e; omega))
  clear im1 g1 y1 b1 zz1 K1 O1
  obtain ⟨W3, r2, im3, g2, y2⟩ := im2.store (P := Tryz.prog) mapTE keyTE 91 (4, 93)
  have b3 := b2.grown g2 b2.size (fun k hk => by have hk := Option.some.inj hk; omega)
  have zz3 : W3.heap.size = w1.heap.size + 1 := y2.trans zz2
  have K3 := K2.kept (g2.block _ (by omega) (by intro e; have e := Option.some.inj e; omega))
  have O3 := O2.kept (g2.block _ (by omega) (by intro e; have e := Option.some.inj e; omega))
  clear im2 g2 y2 b2 zz2 K2 O2
  obtain ⟨W4, r3, im4, g3, y3⟩ := im3.store (P := Tryz.prog) mapTE keyTE 93 (5, 91)
  have b4 := b3.grown g3 b3.size (fun k hk => by have hk := Option.some.inj hk; omega)
  have zz4 : W4.heap.size = w1.heap.size + 1 := y3.trans zz3
  have K4 := K3.kept (g3.block _ (by omega) (by intro e; have e := Option.some.inj e; omega))
  have O4 := O3.kept (g3.block _ (by omega) (by intro e; have e := Option.some.inj e; omega))
  clear im3 g3 y3 b3 zz3 K3 O3
  obtain ⟨W5, r4, im5, g4, y4⟩ := im4.store (P := Tryz.prog) mapTE keyTE 34 (6, 0)
  have b5 := b4.grown g4 b4.size (fun k hk => by have hk := Option.some.inj hk; omega)
  have zz5 : W5.heap.size = w1.heap.size + 1 := y4.trans zz4
  have K5 := K4.kept (g4.block _ (by omega) (by intro e; have e := Option.some.inj e; omega))
  have O5 := O4.kept (g4.block _ (by omega) (by intro e; have e := Option.some.inj e; omega))
  clear im4 g4 y4 b4 zz4 K4 O4
  obtain ⟨W6, r5, im6, g5, y5⟩ := im5.store (P := Tryz.prog) mapTE keyTE 92 (7, 0)
  have b6 := b5.grown g5 b5.size (fun k hk => by have hk := Option.some.inj hk; omega)
  have zz6 : W6.heap.size = w1.heap.size + 1 := y5.trans zz5
  have K6 := K5.kept (g5.block _ (by omega) (by intro e; have e := Option.some.inj e; omega))
  have O6 := O5.kept (g5.block _ (by omega) (by intro e; have e := Option.some.inj e; omega))
  clear im5 g5 y5 b5 zz5 K5 O5
  obtain ⟨W7, r6, im7, g6, y6⟩ := im6.store (P := Tryz.prog) mapTE keyTE 59 (8, 0)
  have b7 := b6.grown g6 b6.size (fun k hk => by have hk := Option.some.inj hk; omega)
  have zz7 : W7.heap.size = w1.heap.size + 1 := y6.trans zz6
  have K7 := K6.kept (g6.block _ (by omega) (by intro e; have e := Option.some.inj e; omega))
  have O7 := O6.kept (g6.block _ (by omega) (by intro e; have e := Option.some.inj e; omega))
  clear im6 g6 y6 b6 zz6 K6 O6
  obtain ⟨W8, r7, im8, g7, y7⟩ := im7.store (P := Tryz.prog) mapTE keyTE 10 (9, 0)
  have b8 := b7.grown g7 b7.size (fun k hk => by have hk := Option.some.inj hk; omega)
  have zz8 : W8.heap.size = w1.heap.size + 1 := y7.trans zz7
  have K8 := K7.kept (g7.block _ (by omega) (by intro e; have e := Option.some.inj e; omega))
  have O8 := O7.kept (g7.block _ (by omega) (by intro e; have e := Option.some.inj e; omega))
  clear im7 g7 y7 b7 zz7 K7 O7
  obtain ⟨W9, r8, im9, g8, y8⟩ := im8.store (P := Tryz.prog) mapTE keyTE 39 (10, 0)
  have b9 := b8.grown g8 b8.size (fun k hk => by have hk := Option.some.inj hk; omega)
  have zz9 : W9.heap.size = w1.heap.size + 1 := y8.trans zz8
  have K9 := K8.kept (g8.block _ (by omega) (by intro e; have e := Option.some.inj e; omega))
  have O9 := O8.kept (g8.block _ (by omega) (by intro e; have e := Option.some.inj e; omega))
  clear im8 g8 y8 b8 zz8 K8 O8
  obtain ⟨W10, r9, im10, g9, y9⟩ := im9.store (P := Tryz.prog) mapTE keyTE 96 (10, 0)
  have b10 := b9.grown g9 b9.size (fun k hk => by have hk := Option.some.inj hk; omega)
  have zz10 : W10.heap.size = w1.heap.size + 1 := y9.trans zz9
  have K10 := K9.kept (g9.block _ (by omega) (by intro e; have e := Option.some.inj e; omega))
  have O10 := O9.kept (g9.block _ (by omega) (by intro e; have e := Option.some.inj e; omega))
  clear im9 g9 y9 b9 zz9 K9 O9
  obtain ⟨W11, r10, im11, g10, y10⟩ := im10.store (P := Tryz.prog) mapTE keyTE 44 (10, 0)
  have b11 := b10.grown g10 b10.size (fun k hk => by have hk := Option.some.inj hk; omega)
  have zz11 : W11.heap.size = w1.heap.size + 1 := y10.trans zz10
  have K11 := K10.kept (g10.block _ (by omega) (by intro e; have e := Option.some.inj e; omega))
  have O11 := O10.kept (g10.block _ (by omega) (by intro e; have e := Option.some.inj e; omega))
  clear im10 g10 y10 b10 zz10 K10 O10
  have zr : w1.heap.size + 1 ≤ W11.heap.size := Nat.le_of_eq zz11.symm
  have zr2 := Lib.hid zz11
  have HIM := Lib.hid im11
  have HB := Lib.hid b11
  have HK := Lib.hid K11
  have HO := Lib.hid O11
  clear zz11 im11 b11 K11 O11
  have c0 := HK.out.cell (j := 0) rfl
  have f0 := HK.out.fz 0
  have hlt : w.heap.size + 1 < W11.heap.size := by omega
  go_wp2_with fail
  go_ret
  have zW : W11.heap.size = w1.heap.size + 1 := zr2.out
  have hal := below1 (W11.setCell ⟨w.heap.size + 1, 0, none⟩ (.func (.func 39) #[] #[pAt W11.heap.size])) (.cells #[.map (some w1.heap.size)] 76)
  have hsz : (W11.setCell ⟨w.heap.size + 1, 0, none⟩ (.func (.func 39) #[] #[pAt W11.heap.size])).heap.size = W11.heap.size := by simp
  have hk := Blk.made (W11.setCell ⟨w.heap.size + 1, 0, none⟩ (.func (.func 39) #[] #[pAt W11.heap.size])) 76 #[.map (some w1.heap.size)]
  rw [hsz] at hk
  refine ⟨w.heap.size + 1, W11.heap.size, w1.heap.size, w.heap.size, rfl, ?_, ?_, hk, ?_, ?_⟩
  · exact (HB.out.setCell (p := ⟨w.heap.size + 1, 0, none⟩) (by show w.heap.size ≤ w.heap.size + 1; omega) _).trans (hal.mono (by rw [hsz]; exact HB.out.size))
  · exact (HK.out.set (j := 0) (by simp) (.func (.func 39) #[] #[pAt W11.heap.size])).up hal
  · exact (HIM.out.kept (Below.heap_setCell _ _ _ _ (by show w1.heap.size ≠ w.heap.size + 1; omega))).kept (hal.block _ (by rw [hsz]; exact HIM.out.lt))
  · exact (HO.out.kept (Below.heap_setCell _ _ _ _ (by show w.heap.size ≠ w.heap.size + 1; omega))).kept (hal.block _ (by rw [hsz]; exact HO.out.lt))
end
end Go.Proofs.YtphdkcdkhklicaaGreatDoor
/- package syntax: plain, the rule of Lisp, entry, Class, Copy. -/
namespace Go.Proofs.YtphdkcdkhklicaaGreatDoor
open Go.RowKit
set_option linter.unusedVariables false
set_option linter.unusedSimpArgs false
def plainC (c : Nat) : Int := if c = 9 ∨ c = 10 ∨ c = 12 ∨ c = 13 ∨ c = 32 then 3 else if inS c wordL then 1 else 0
abbrev symS : ByteArray := ⟨#[45, 43, 42, 47, 60, 62, 61, 33, 63, 36, 37, 38, 95, 126, 94, 58, 123, 125, 124, 46, 64, 35]⟩
def symB (c : Nat) : Bool := decide (0 ≤ Lib.indexByte symS.data.toList ((c : Int).toNat.toUInt8))
def lispE (c : Nat) : Int × Int := match lookM specL c with
  | some x => x
  | none => if 32 < c ∧ c < 127 ∧ symB c = true then (2, 0) else (plainC c, 0)
def lispC (c : Nat) : Int := (lispE c).1
section
variable {w w' : World} {tb bs ms mo : Nat}
theorem eqb (c k : Nat) (h : c ≠ k) : ((c : Int) == (k : Int)) = false := by simp; omega
set_option maxRecDepth 100000 in
set_option maxHeartbeats 2000000 in
theorem plain_ok (c : Nat) (w : World) : Calls Tryz.prog 41 #[.int .i64 c] w fun e w' => e = .returned (.agg #[.int .i64 (plainC c), .int .i64 0]) ∧ Below w.heap.size w w' := by
  unfold plainC
  have hb := below1 w (.cells #[.int .i64 0, .int .i64 0] 75)
  have hk := Blk.made w 75 #[.int .i64 0, .int .i64 0]
  have HK := Lib.hid hk
  have HB := Lib.hid hb
  clear hk hb
  by_cases hsp : c = 9 ∨ c = 10 ∨ c = 12 ∨ c = 13 ∨ c = 32
  · rw [if_pos hsp]
    have hfin : ∀ (W : World), W = w.alloc (.cells #[.int .i64 3, .int .i64 0] 75) → W.cell? ⟨w.heap.size, 0, none⟩ = some (.int .i64 3) ∧ W.cell? ⟨w.heap.size, 1, none⟩ = some (.int .i64 0) := fun W hW => by
      subst hW
      exact ⟨(Blk.made w 75 #[.int .i64 3, .int .i64 0]).cell (j := 0) rfl, (Blk.made w 75 #[.int .i64 3, .int .i64 0]).cell (j := 1) rfl⟩
    obtain ⟨k0, k1⟩ := hfin _ rfl
    clear hfin
    rcases hsp with rfl | rfl | rfl | rfl | rfl
    all_goals
      go_enter Tryz.func41, Tryz.ntmps41
      go_wp2_with fail
      refine bodyPost_ret (v := .agg #[.int .i64 3, .int .i64 0]) (by simp [results, Tryz.f41, go_sem, k0, k1]) rfl ?_
      exact ⟨rfl, below1 w _⟩
  · rw [if_neg hsp]
    have e1 : ((c : Int) == (9 : Int)) = false := by simp; omega
    have e2 : ((c : Int) == (10 : Int)) = false := by simp; omega
    have e3 : ((c : Int) == (12 : Int)) = false := by simp; omega
    have e4 : ((c : Int) == (13 : Int)) = false := by simp; omega
    have e5 : ((c : Int) == (32 : Int)) = false := by simp; omega
    have HW := Lib.hid fun W => word_ok c W
    clear hsp
    cases hw : inS c wordL with
    | true =>
      rw [hw] at HW
      simp only [if_true]
      go_enter Tryz.func41, Tryz.ntmps41
      go_wp2_with fail
      refine (HW.out _).mono ?_
      rintro e w1 ⟨rfl, hb1⟩
      have hk1 := HK.out.up hb1
      have k0 := hk1.cell (j := 0) rfl
      have k1 := hk1.cell (j := 1) rfl
      have f0 := hk1.fz 0
      have f1 := hk1.fz 1
      go_wp2_with fail
      have hk2 := (hk1.set (j := 0) (by simp) (.int .i64 1)).set (j := 1) (by simp) (.int .i64 0)
      have k0 := hk2.cell (j := 0) rfl
      have k1 := hk2.cell (j := 1) rfl
      refine bodyPost_ret (v := .agg #[.int .i64 1, .int .i64 0]) (by simp [results, Tryz.f41, go_sem, k0, k1]) rfl ?_
      exact ⟨rfl, ((HB.out.trans (hb1.mono HB.out.size)).setCell (p := ⟨w.heap.size, 0, none⟩) (Nat.le_refl _) _).setCell (p := ⟨w.heap.size, 1, none⟩) (Nat.le_refl _) _⟩
    | false =>
      rw [hw] at HW
      simp only [Bool.false_eq_true, if_false]
      go_enter Tryz.func41, Tryz.ntmps41
      go_wp2_with fail
      refine (HW.out _).mono ?_
      rintro e w1 ⟨rfl, hb1⟩
      have hk1 := HK.out.up hb1
      have k0 := hk1.cell (j := 0) rfl
      have k1 := hk1.cell (j := 1) rfl
      have f0 := hk1.fz 0
      have f1 := hk1.fz 1
      go_wp2_with fail
      have hk2 := (hk1.set (j := 0) (by simp) (.int .i64 0)).set (j := 1) (by simp) (.int .i64 0)
      have k0 := hk2.cell (j := 0) rfl
      have k1 := hk2.cell (j := 1) rfl
      refine bodyPost_ret (v := .agg #[.int .i64 0, .int .i64 0]) (by simp [results, Tryz.f41, go_sem, k0, k1]) rfl ?_
      exact ⟨rfl, ((HB.out.trans (hb1.mono HB.out.size)).setCell (p := ⟨w.heap.size, 0, none⟩) (Nat.le_refl _) _).setCell (p := ⟨w.heap.size, 1, none⟩) (Nat.le_refl _) _⟩
theorem lookSpec (h : LspT w tb bs ms mo) (c : Nat) : (∃ x, lookM specL c = some x ∧ (Instr.lookup 76 (.map (some ms)) (.int .i64 c) true).run Tryz.prog w = .ok (.tuple #[.agg #[.int .i64 x.1, .int .i64 x.2], .bool true]) w) ∨
    (lookM specL c = none ∧ (Instr.lookup 76 (.map (some ms)) (.int .i64 c) true).run Tryz.prog w = .ok (.tuple #[.agg #[.int .i64 0, .int .i64 0], .bool false]) w) := by
  cases hx : lookM specL c with
  | some x => exact .inl ⟨x, rfl, h.spec.look_some mapTE keyTE hx true⟩
  | none => exact .inr ⟨rfl, h.spec.look_none mapTE keyTE hx true (zeroE w)⟩
theorem u8wrap (c : Nat) (h : c < 127) : IntKind.u8.wrap (c : Int) = (c : Int) := by
  simp only [IntKind.wrap, IntKind.bits, IntKind.signed]
  first | omega | (simp; omega)
set_option maxRecDepth 100000 in
set_option maxHeartbeats 4000000 in
theorem rule_ok (h : LspT w tb bs ms mo) (c : Nat) : Calls Tryz.prog 39 #[.int .i64 c, pAt bs] w fun e w' => e = .returned (.agg #[.int .i64 (lispE c).1, .int .i64 (lispE c).2]) ∧ Below w.heap.size w w' := by
  have hb := below1 w (.cells #[.int .i64 0, .int .i64 0] 75)
  have hk := Blk.made w 75 #[.int .i64 0, .int .i64 0]
  have h1 := h.up hb
  have hsz : (w.alloc (.cells #[.int .i64 0, .int .i64 0] 75)).heap.size = w.heap.size + 1 := by simp
  have HB := Lib.hid hb
  have HK := Lib.hid hk
  have H1 := Lib.hid h1
  have HP := Lib.hid fun W => plain_ok c W
  have hbs := h.cell.lt
  have q0 := h.cell.cell (j := 0) rfl
  unfold lispE
  rcases lookSpec h1 c with ⟨x, hx, hl⟩ | ⟨hx, hl⟩
  · rw [hx]
    obtain ⟨a, b⟩ := x
    clear h h1 hb hk hx hsz
    go_enter Tryz.func39, Tryz.ntmps39
    go_wp2_with fail
    have k0 : ((w.alloc (.cells #[.int .i64 a, .int .i64 b] 75)).alloc (.cells #[.int .i64 a, .int .i64 b] 75)).cell? ⟨w.heap.size, 0, none⟩ = some (.int .i64 a) := ((Blk.made w 75 #[.int .i64 a, .int .i64 b]).up (below1 _ _)).cell (j := 0) rfl
    have k1 : ((w.alloc (.cells #[.int .i64 a, .int .i64 b] 75)).alloc (.cells #[.int .i64 a, .int .i64 b] 75)).cell? ⟨w.heap.size, 1, none⟩ = some (.int .i64 b) := ((Blk.made w 75 #[.int .i64 a, .int .i64 b]).up (below1 _ _)).cell (j := 1) rfl
    refine bodyPost_ret (v := .agg #[.int .i64 a, .int .i64 b]) (by simp [results, Tryz.f39, go_sem, k0, k1]) rfl ?_
    exact ⟨rfl, below2 w _ _⟩
  · rw [hx]
    simp only []
    have HB2 := Lib.hid (below2 w (.cells #[.int .i64 0, .int .i64 0] 75) (.cells #[.int .i64 0, .int .i64 0] 75))
    have HK2 := Lib.hid (hk.up (below1 _ (.cells #[.int .i64 0, .int .i64 0] 75)))
    clear h h1 hb hk hx hsz
    by_cases hr : 32 < c ∧ c < 127
    · have d1 : decide ((32 : Int) < (c : Int)) = true := decide_eq_true (by omega)
      have d2 : decide ((c : Int) < 127) = true := decide_eq_true (by omega)
      have hu := u8wrap c hr.2
      have HI := Lib.hid fun W => (show Calls Tryz.prog 40 #[.string symS, .int .u8 c] W _ from Any.strings_IndexByte Tryz.laysIdx symS c W)
      cases hsym : symB c with
      | true =>
        rw [if_pos ⟨hr.1, hr.2, rfl⟩]
        have d3 : decide ((0 : Int) ≤ Lib.indexByte symS.data.toList ((c : Int).toNat.toUInt8)) = true := hsym
        clear hr hsym
        go_enter Tryz.func39, Tryz.ntmps39
        go_wp2_with fail
        refine (HI.out _).mono ?_
        rintro e w3 ⟨rfl, rfl⟩
        generalize Lib.indexByte symS.data.toList ((c : Int).toNat.toUInt8) = R at *
        go_wp2_with fail
        have k0 : ((w.alloc (.cells #[.int .i64 2, .int .i64 0] 75)).alloc (.cells #[.int .i64 0, .int .i64 0] 75)).cell? ⟨w.heap.size, 0, none⟩ = some (.int .i64 2) := ((Blk.made w 75 #[.int .i64 2, .int .i64 0]).up (below1 _ _)).cell (j := 0) rfl
        have k1 : ((w.alloc (.cells #[.int .i64 2, .int .i64 0] 75)).alloc (.cells #[.int .i64 0, .int .i64 0] 75)).cell? ⟨w.heap.size, 1, none⟩ = some (.int .i64 0) := ((Blk.made w 75 #[.int .i64 2, .int .i64 0]).up (below1 _ _)).cell (j := 1) rfl
        refine bodyPost_ret (v := .agg #[.int .i64 2, .int .i64 0]) (by simp [results, Tryz.f39, go_sem, k0, k1]) rfl ?_
        exact ⟨rfl, below2 w _ _⟩
      | false =>
        rw [if_neg (by simp)]
        have d3 : decide ((0 : Int) ≤ Lib.indexByte symS.data.toList ((c : Int).toNat.toUInt8)) = false := hsym
        clear hr hsym
        go_enter Tryz.func39, Tryz.ntmps39
        go_wp2_with fail
        refine (HI.out _).mono ?_
        rintro e w3 ⟨rfl, rfl⟩
        generalize Lib.indexByte symS.data.toList ((c : Int).toNat.toUInt8) = R at *
        go_wp2_with fail
        refine (HP.out _).mono ?_
        rintro e w3 ⟨rfl, hb3⟩
        have hk3 := HK2.out.up hb3
        have k0 := hk3.cell (j := 0) rfl
        have k1 := hk3.cell (j := 1) rfl
        have f0 := hk3.fz 0
        have f1 := hk3.fz 1
        go_wp2_with fail
        have hk4 := (hk3.set (j := 0) (by simp) (.int .i64 (plainC c))).set (j := 1) (by simp) (.int .i64 0)
        have k0 := hk4.cell (j := 0) rfl
        have k1 := hk4.cell (j := 1) rfl
        refine bodyPost_ret (v := .agg #[.int .i64 (plainC c), .int .i64 0]) (by simp [results, Tryz.f39, go_sem, k0, k1]) rfl ?_
        exact ⟨rfl, ((HB2.out.trans (hb3.mono HB2.out.size)).setCell (p := ⟨w.heap.size, 0, none⟩) (Nat.le_refl _) _).setCell (p := ⟨w.heap.size, 1, none⟩) (Nat.le_refl _) _⟩
    · rw [if_neg (by omega)]
      by_cases h32 : 32 < c
      · have d1 : decide ((32 : Int) < (c : Int)) = true := decide_eq_true (by omega)
        have d2 : decide ((c : Int) < 127) = false := decide_eq_false (by omega)
        clear hr h32
        go_enter Tryz.func39, Tryz.ntmps39
        go_wp2_with fail
        refine (HP.out _).mono ?_
        rintro e w3 ⟨rfl, hb3⟩
        have hk3 := HK2.out.up hb3
        have k0 := hk3.cell (j := 0) rfl
        have k1 := hk3.cell (j := 1) rfl
        have f0 := hk3.fz 0
        have f1 := hk3.fz 1
        go_wp2_with fail
        have hk4 := (hk3.set (j := 0) (by simp) (.int .i64 (plainC c))).set (j := 1) (by simp) (.int .i64 0)
        have k0 := hk4.cell (j := 0) rfl
        have k1 := hk4.cell (j := 1) rfl
        refine bodyPost_ret (v := .agg #[.int .i64 (plainC c), .int .i64 0]) (by simp [results, Tryz.f39, go_sem, k0, k1]) rfl ?_
        exact ⟨rfl, ((HB2.out.trans (hb3.mono HB2.out.size)).setCell (p := ⟨w.heap.size, 0, none⟩) (Nat.le_refl _) _).setCell (p := ⟨w.heap.size, 1, none⟩) (Nat.le_refl _) _⟩
      · have d1 : decide ((32 : Int) < (c : Int)) = false := decide_eq_false (by omega)
        clear hr h32
        go_enter Tryz.func39, Tryz.ntmps39
        go_wp2_with fail
        refine (HP.out _).mono ?_
        rintro e w3 ⟨rfl, hb3⟩
        have hk3 := HK2.out.up hb3
        have k0 := hk3.cell (j := 0) rfl
        have k1 := hk3.cell (j := 1) rfl
        have f0 := hk3.fz 0
        have f1 := hk3.fz 1
        go_wp2_with fail
        have hk4 := (hk3.set (j := 0) (by simp) (.int .i64 (plainC c))).set (j := 1) (by simp) (.int .i64 0)
        have k0 := hk4.cell (j := 0) rfl
        have k1 := hk4.cell (j := 1) rfl
        refine bodyPost_ret (v := .agg #[.int .i64 (plainC c), .int .i64 0]) (by simp [results, Tryz.f39, go_sem, k0, k1]) rfl ?_
        exact ⟨rfl, ((HB2.out.trans (hb3.mono HB2.out.size)).setCell (p := ⟨w.heap.size, 0, none⟩) (Nat.le_refl _) _).setCell (p := ⟨w.heap.size, 1, none⟩) (Nat.le_refl _) _⟩
end
end Go.Proofs.YtphdkcdkhklicaaGreatDoor
/- package syntax: none, entry, Class, Copy, of the table of Lisp. -/
namespace Go.Proofs.YtphdkcdkhklicaaGreatDoor
open Go.RowKit
set_option linter.unusedVariables false
set_option linter.unusedSimpArgs false
section
variable {w w' : World} {tb bs ms mo : Nat}
theorem eqlFn (F : FuncId) (cp : Array Value) (w : World) : (binOp .eql 79 (.func (.func F) #[] cp) .nilFunc).run Tryz.prog w = .ok (.bool false) w := by kernel_rfl
set_option maxRecDepth 100000 in
set_option maxHeartbeats 1000000 in
theorem tnone_ok (h : LspT w tb bs ms mo) : Calls Tryz.prog 93 #[pAt tb] w fun e w' => e = .returned (.bool false) ∧ w = w' := by
  have c0 := h.blk.cell (j := 0) rfl
  have he := eqlFn 39 #[pAt bs]
  clear h
  go_enter Tryz.func93, Tryz.ntmps93
  go_wp2_with fail
  go_ret
  exact ⟨rfl, rfl⟩
set_option maxRecDepth 100000 in
set_option maxHeartbeats 4000000 in
theorem entry_ok (h : LspT w tb bs ms mo) (c : Nat) (hc : isN c) : Calls Tryz.prog 101 #[pAt tb, .int .i64 c] w fun e w' => e = .returned (.agg #[.int .i64 (lispE c).1, .int .i64 (lispE c).2]) ∧ Below w.heap.size w w' := by
  have hb := below1 w (.cells #[.int .i64 0, .int .i64 0] 75)
  have hk := Blk.made w 75 #[.int .i64 0, .int .i64 0]
  have h1 := h.up hb
  have HI := Lib.hid fun W => is_ok c hc W
  have HN := Lib.hid (tnone_ok h1)
  have H1 := Lib.hid h1
  have HK := Lib.hid hk
  have HB := Lib.hid hb
  obtain ⟨x, hx⟩ : ∃ x, (lispE c).1 = x := ⟨_, rfl⟩
  obtain ⟨y, hy⟩ : ∃ y, (lispE c).2 = y := ⟨_, rfl⟩
  have HX := Lib.hid (And.intro hx hy)
  rw [hx, hy]
  clear hx hy
  have hE := enters_mk Tryz.func39 (by kernel_rfl) rfl
  have hin : ∀ (args : Array Value) (w : World), (callFunc 39 args).run Tryz.prog w = .ok (.enter 39 args) w := hE
  clear h h1 hb hk hc hE
  go_enter Tryz.func101, Tryz.ntmps101
  go_wp2_with fail
  refine HN.out.mono ?_
  rintro e w1 ⟨rfl, rfl⟩
  go_wp2_with fail
  refine (HI.out _).mono ?_
  rintro e w1 ⟨rfl, rfl⟩
  have q1 := H1.out.blk.cell (j := 1) rfl
  have q0 := H1.out.blk.cell (j := 0) rfl
  have hlook := H1.out.own.look_none (P := Tryz.prog) mapTE keyTE (k := (c : Int)) (by rfl) true (zeroE _)
  have htb := H1.out.blk.lt
  generalize w.alloc (.cells #[.int .i64 0, .int .i64 0] 75) = W at *
  go_wp2_with fail
  have hb2 := below1 W (.cells #[.int .i64 0, .int .i64 0] 75)
  have hru := rule_ok (H1.out.up hb2) c
  rw [HX.out.1, HX.out.2] at hru
  refine hru.mono ?_
  rintro e w3 ⟨rfl, hb3⟩
  have hk3 := (HK.out.up hb2).up hb3
  have k0 := hk3.cell (j := 0) rfl
  have k1 := hk3.cell (j := 1) rfl
  have f0 := hk3.fz 0
  have f1 := hk3.fz 1
  go_wp2_with fail
  have hk4 := (hk3.set (j := 0) (by simp) (.int .i64 x)).set (j := 1) (by simp) (.int .i64 y)
  have k0 := hk4.cell (j := 0) rfl
  have k1 := hk4.cell (j := 1) rfl
  refine bodyPost_ret (v := .agg #[.int .i64 x, .int .i64 y]) (by simp [results, Tryz.f101, go_sem, k0, k1]) rfl ?_
  have hb4 : Below w.heap.size w w3 := up2 (up2 HB.out hb2) hb3
  exact ⟨rfl, (hb4.setCell (p := ⟨w.heap.size, 0, none⟩) (Nat.le_refl _) _).setCell (p := ⟨w.heap.size, 1, none⟩) (Nat.le_refl _) _⟩
theorem fieldE0 (x y : Int) (w : World) : (Instr.field 75 (.agg #[.int .i64 x, .int .i64 y]) 0).run Tryz.prog w = .ok (.int .i64 x) w := by kernel_rfl
set_option maxHeartbeats 1000000 in
theorem class_ok (h : LspT w tb bs ms mo) (c : Nat) (hc : isN c) : Calls Tryz.prog 51 #[pAt tb, .int .i64 c] w fun e w' => e = .returned (.int .i64 (lispC c)) ∧ Below w.heap.size w w' := by
  have HE := Lib.hid (entry_ok h c hc)
  unfold lispC
  generalize (lispE c).1 = x at *
  generalize (lispE c).2 = y at *
  have hf := fieldE0 x y
  clear h hc
  go_enter Tryz.func51, Tryz.ntmps51
  go_wp2_with fail
  refine HE.out.mono ?_
  rintro e w1 ⟨rfl, hb1⟩
  go_wp2_with fail
  go_ret
  exact ⟨rfl, hb1⟩
set_option maxRecDepth 100000 in
set_option maxHeartbeats 2000000 in
theorem tcopy_ok (h : LspT w tb bs ms mo) : Calls Tryz.prog 42 #[pAt tb] w fun e w' => ∃ k, e = .returned (pAt k) ∧ Below w.heap.size w w' := by
  have HN := Lib.hid (tnone_ok h)
  have H := Lib.hid h
  have c0 := h.blk.cell (j := 0) rfl
  have c1 := h.blk.cell (j := 1) rfl
  have htb := h.blk.lt
  have hmm := @run_makeMap Tryz.prog
  have hb2 := below2 w (.map #[] 0) (.cells #[.func (.func 39) #[] #[pAt bs], .map (some w.heap.size)] 81)
  obtain ⟨w3, hrange, hir, hb3, _⟩ := (H.out.up hb2).own.range (P := Tryz.prog) mapTE
  have hz2 : ((w.alloc (.map #[] 0)).alloc (.cells #[.func (.func 39) #[] #[pAt bs], .map (some w.heap.size)] 81)).heap.size = w.heap.size + 1 + 1 := by simp
  rw [hz2] at hir
  clear h hz2
  go_enter Tryz.func42, Tryz.ntmps42
  go_wp2_with fail
  refine HN.out.mono ?_
  rintro e w1 ⟨rfl, rfl⟩
  go_wp2_with fail
  clear hrange
  go_loopw [4] (fun _ wr => w3 = wr) (fun _ _ => 0)
  case atStart => rfl
  case round =>
    subst hrel
    rcases hir.next (P := Tryz.prog) with ⟨h0, hnx⟩ | ⟨k, v, w4, hk, _⟩
    · go_wp2_with fail
      go_ret
      exact ⟨_, rfl, up2 hb2 hb3⟩
    · cases hk
end
end Go.Proofs.YtphdkcdkhklicaaGreatDoor
/- Buffer.Text; runes.List; syntax's chars. -/
namespace Go.Proofs.YtphdkcdkhklicaaGreatDoor
open Go.RowKit
set_option linter.unusedVariables false
set_option linter.unusedSimpArgs false
section
variable {w w' : World} {b g tb bs ms mo : Nat} {S : BS} {cs : List Nat}
set_option maxRecDepth 100000 in
set_option maxHeartbeats 2000000 in
theorem bText_ok (h : BufT w b g S cs) (x y : Nat) (h1 : S.lo ≤ x) (h2 : x ≤ y) (h3 : y ≤ S.hi) : Calls Tryz.prog 22 #[pAt b, .int .i64 x, .int .i64 y] w fun r w' => r = .returned (.tuple #[.string (encS (subL cs x y)), .int .i64 0]) ∧ Below w.heap.size w w' := by
  have hr : reachB S x y = true := by unfold reachB; simp; omega
  have HM := Lib.hid (ChkAt.made h.blk)
  have HV := Lib.hid (within_ok h.blk x y)
  rw [hr] at HV
  have q1 := h.h1
  have q4 := h.h4
  have H := Lib.hid h
  clear h hr
  go_enter Tryz.func22, Tryz.ntmps22
  go_wp2_with fail
  refine HV.out.mono ?_
  rintro r w1 ⟨k1, k2, rfl, hb1, hc⟩
  change ChkAt w1 True (unlC k1 k2 0) at hc
  have C1 := Lib.hid hc
  have B1 := Lib.hid hb1
  have M1 := Lib.hid (HM.out.up hb1)
  clear hc hb1 HV HM
  go_wp2_with fail
  have hb4 := below1 w1 (.cells #[(madeC b).val, (unlC k1 k2 0).val] 59)
  have hR3 := RSl.arr (enc := encK) (zs := [madeC b, unlC k1 k2 0]) (MapKept.heap_alloc w1 (.cells #[(madeC b).val, (unlC k1 k2 0).val] 59)).1 rfl
  have HF := first_any hR3 2 (by simp) (by
    intro c hc
    simp only [List.mem_cons, List.not_mem_nil, or_false] at hc
    rcases hc with rfl | rfl
    · exact M1.out.en
    · exact C1.out.en) (by
    intro i c w4 hi hz hb
    rcases i with _ | _ | i
    · cases hi; exact M1.out.run trivial w4 (up2 hb4 hb)
    · cases hi; exact C1.out.run trivial w4 (up2 hb4 hb)
    · simp at hi)
  have HF := Lib.hid HF
  have B2 := Lib.hid (up2 B1.out hb4)
  clear hR3 hb4 M1 C1 B1
  refine HF.out.mono ?_
  rintro e w5 ⟨rfl, hb5⟩
  have hh := H.out.up (up2 B2.out hb5)
  have q9 := hh.blk.cell (j := 9) rfl
  have H5 := Lib.hid hh
  have B5 := Lib.hid (up2 B2.out hb5)
  clear hh hb5 B2 HF H
  simp only [firstE]
  go_wp2_with fail
  refine (gslice_ok H5.out.gap x y (by omega) h2 (by omega)).mono ?_
  rintro e w6 ⟨rfl, hb6⟩
  go_wp2_with fail
  go_ret2
  exact ⟨rfl, up2 B5.out hb6⟩
set_option maxRecDepth 100000 in
set_option maxHeartbeats 2000000 in
theorem rlist_ok {N : Nat} (hT : Tabs N w) (s : ByteArray) (hs : s.size ≤ 1000000) (hv : (charsD s.data.toList).isSome = true) : Calls Tryz.prog 103 #[.string s] w fun e w' => ∃ v, e = .returned (.tuple #[v, .int .i64 0]) ∧ ROwn encI 3 1 w.heap.size w' v ((chrs s).map Int.ofNat) ∧ Below w.heap.size w w' := by
  have hlen := chrs_len s
  obtain ⟨cs, hcs⟩ := Option.isSome_iff_exists.1 hv
  have hcc : chrs s = cs := by unfold chrs; rw [hcs]; rfl
  rw [hcc] at hlen ⊢
  have hV := valid_any s w (by omega) hT
  rw [vld_chars, hv] at hV
  have HV := Lib.hid hV
  have HCS := Lib.hid hcs
  clear hV hv hcc hcs hT
  go_enter Tryz.func103, Tryz.ntmps103
  go_wp2_with fail
  refine HV.out.mono ?_
  rintro e w1 ⟨rfl, hb1⟩
  have z1 := hb1.size
  have B1 := Lib.hid hb1
  clear hb1 HV
  go_wp2_with fail
  have hit := w1.iter_heap s 0
  have hsz : (w1.iter s 0).heap.size = w1.heap.size + 1 := by simp [World.iter]
  have HBi := Lib.hid (show Below w1.heap.size w1 (w1.iter s 0) from below1 w1 _)
  generalize w1.iter s 0 = W at *
  go_loopw [4, 6] (fun va vb wr => ∃ (p : Nat) (pre rest : List Nat), p ≤ s.size ∧ cs = pre ++ rest ∧ charsD (s.data.toList.drop p) = some rest ∧ wr.heap[w1.heap.size]? = some (.stringIter s p) ∧
      ROwn encI 3 1 (w1.heap.size + 1) wr va (pre.map Int.ofNat) ∧ Below w.heap.size w wr ∧ w1.heap.size + 1 ≤ wr.heap.size) (fun _ _ wr => s.size - wr.iterPos w1.heap.size)
  case atStart => exact ⟨0, [], cs, Nat.zero_le _, rfl, by simpa using HCS.out, hit, ROwn.nil _ _, up2 B1.out HBi.out, by omega⟩
  case round =>
    obtain ⟨p, pre, rest, hp, hcs, hrest, hit, hown, hbel, hsz2⟩ := hrel
    clear hsz
    generalize w1.heap.size = K at *
    by_cases hlt : p < s.size
    · obtain ⟨c, rest', hrc, hd1, hd2, hd3, hd4, hc⟩ := decode_step hlt hrest
      subst hrc
      have hnx := fun ty => Lib.run_next_any_at (P := Tryz.prog) wr K s p ty hit hlt
      rw [hd1] at hnx
      have hit1 := Lib.iterAt_heap wr K s p (p + (Utf8.decode s p).2) hit
      have hoth := fun j (hj : j ≠ K) => Lib.iterAt_other wr K j s (p + (Utf8.decode s p).2) hj
      have hsz1 := Lib.iterAt_size wr K s (p + (Utf8.decode s p).2)
      have hip : (wr.iterPos K) = p := iterPos_of hit
      rw [hip]
      have hpp : p < p + (Utf8.decode s p).2 := by omega
      have hbel1 : Below w.heap.size w (wr.iterAt K s (p + (Utf8.decode s p).2)) := hbel.trans ⟨rfl, rfl, rfl, by rw [hsz1]; exact Nat.le_refl _, fun j hj => hoth j (by omega)⟩
      clear hd1 hd2
      generalize p + (Utf8.decode s p).2 = p' at *
      generalize wr.iterAt K s p' = w2 at *
      have hown1 := hown.kept (fun g hg => hoth g (by have := hown.base hg; omega))
      have hsz1' : K + 1 ≤ w2.heap.size := by rw [hsz1]; exact hsz2
      clear hsz1
      have s1 : IntKind.i64.wrap (c : Int) = (c : Int) := IntWalk.i64_in _ (by unfold isN at hc; omega)
      have hl : pre.length + 1 ≤ cs.length := by rw [hcs]; simp
      obtain ⟨v', w3, happ, hown2, hb2, hon2, _⟩ := append_elem eltI hown1 hsz1' (c : Int) (by rw [List.length_map]; omega) (by omega)
      have HP : Hid (∀ ty, (Builtin.append_ #[35, 35] ty #[u4, .slice (some ⟨w2.heap.size, 0, none⟩) 1 1]).run Tryz.prog (w2.alloc (.cells #[.int .i64 (c : Int)] 3)) = .ok v' w3) := Lib.hid happ
      have HNX := Lib.hid hnx
      clear happ
      go_wp2_with (at_builtin; refine wpList_app_run (v := u4) (u := .slice (some ⟨w2.heap.size, 0, none⟩) 1 1) rfl _ _ _ rfl rfl rfl HP.out ?_)
      have hit2 := (hb2.block K (by omega)).trans hit1
      go_roundw
      case rel =>
        refine ⟨p', pre ++ [c], rest', hd3, by rw [hcs, List.append_assoc]; rfl, hd4, hit2, by rw [List.map_append]; exact hown2, hbel1.trans (hb2.mono (by omega)), Nat.le_trans hsz1' hb2.size⟩
      case measure =>
        rw [iterPos_of hit2]; omega
    · have hp2 : p = s.size := by omega
      have hrn : rest = [] := by
        have : s.data.toList.drop p = [] := List.drop_eq_nil_of_le (by rw [hp2]; simp)
        rw [this, charsD_nil] at hrest
        cases hrest; rfl
      subst hrn
      rw [List.append_nil] at hcs
      have hnx := fun ty => Lib.run_next_end_at (P := Tryz.prog) wr K s p ty hit hlt
      go_wp2_with fail
      go_ret2
      exact ⟨_, rfl, by rw [hcs]; exact hown.low (by omega), hbel⟩
end
end Go.Proofs.YtphdkcdkhklicaaGreatDoor
