import Derived.Test.YtnbccoelbfgmgaaGreatDoorZ17
import Derived.Test.YtnbccoelbfgmgaaGreatDoorZ16
import Derived.Test.YtnbccoelbfgmgaaGreatDoorZ22
import Derived.Test.YtnbccoelbfgmgaaGreatDoorZ00
import Derived.IntWalk
import Derived.Test.YtnbccoelbfgmgaaGreatDoorKrB
import Derived.Test.YtnbccoelbfgmgaaGreatDoorZ05
import Derived.BigRegion
import Derived.RegionTactic
import Derived.ChangeAlike
/- copyistlaw24: light; of, at a plain buffer. -/
namespace Go.Proofs.YtnbccoelbfgmgaaGreatDoor
open Go.RowKit Go.Lib
set_option linter.unusedVariables false
set_option linter.unusedSimpArgs false
abbrev freshT (t m p o l : Nat) (lock : Int) : Tx := ⟨freshS t m p o l lock, [], [], [], -1⟩
/-- A buffer that holds a string, its group closed. -/
def withT (t m p o l : Nat) (lock : Int) (s : List Nat) : Tx := shutT (insT (freshT t m p o l lock) s false)
/-- What of hands over. -/
structure OfT (T : Tx) (cs : List Nat) : Prop where
  cs : T.cs = cs
  wide : Wide T
  empty : T.S.empty = true
  o : T.O = []
  g : ∀ g ∈ T.G, g.length ≤ 3
  ch : T.ch = -1
theorem shutT_wide {T : Tx} (h : Wide T) : Wide (shutT T) := ⟨h.lo, h.hi, h.ro⟩
theorem withT_of (t m p o l : Nat) (lock : Int) (s : List Nat) : OfT (withT t m p o l lock s) s := by
  have hw : Wide (freshT t m p o l lock) := ⟨rfl, rfl, rfl⟩
  have h1 : (freshT t m p o l lock).S.pt = 1 := rfl
  refine ⟨?_, shutT_wide (hw.ins (by rw [h1]; omega) (by rw [h1]; show 1 ≤ 0 + 1; omega)), rfl, rfl, ?_, ?_⟩
  · show (insT (freshT t m p o l lock) s false).cs = s
    show (putT (freshT t m p o l lock) 1 s false).cs = s
    rw [putT_cs]; unfold insC; simp
  · intro g hg
    by_cases h0 : s.length = 0
    · have e : (withT t m p o l lock s).G = [] := by
        show logShut (putT (freshT t m p o l lock) 1 s false).G (putT (freshT t m p o l lock) 1 s false).O = []
        unfold putT; rw [if_pos h0]; rfl
      rw [e] at hg; simp at hg
    · have e : (withT t m p o l lock s).G = [notePre (freshS t m p o l lock) ++ [insChg 1 s.length]] := by
        show logShut (putT (freshT t m p o l lock) 1 s false).G (putT (freshT t m p o l lock) 1 s false).O = _
        unfold putT; rw [if_neg h0]
        show logShut [] (noteO (freshS t m p o l lock) [] (insChg 1 s.length)) = _
        rw [noteO_first rfl]
        unfold logShut; rw [if_neg (by simp)]; rfl
      rw [e, List.mem_singleton] at hg
      subst hg
      have := (npre_ok (freshS t m p o l lock) []).2.2.2
      simp; omega
  · show (putT (freshT t m p o l lock) 1 s false).ch = -1
    unfold putT; split <;> rfl
section
variable {w w' : World} {N : Nat}
theorem fitsE_fresh {s : ByteArray} (hs : s.size ≤ 10000) (hv : (charsD s.data.toList).isSome = true) : fitsE s 0 0 = 0 := by
  have := chrs_len s
  unfold fitsE
  rw [vld_chars, if_pos hv, rlenG_chars hv, if_neg (by simp; omega)]
def lightB (s : ByteArray) : Bool := decide (s.size ≤ 120) && vld s
end
/-- A buffer made since B0: its blocks lie from B0 on, and nothing below turned since w. -/
structure St (N : Nat) (w : World) (B0 b : Nat) (w' : World) (T : Tx) (B : Nat) : Prop where
  bl : Below B0 w w'
  pb : PB N w' b (fun k => B0 ≤ k) T B
  sz : B0 ≤ w'.heap.size
section
variable {w w1 w2 : World} {N B0 b B1 B2 : Nat} {T1 T2 : Tx}
theorem St.next (h : St N w B0 b w1 T1 B1) (k : Only (fun k => B0 ≤ k) w1 w2 ∧ PB N w2 b (grow (fun k => B0 ≤ k) w1.heap.size) T2 B2) : St N w B0 b w2 T2 B2 :=
  ⟨h.bl.trans (k.1.below h.sz (fun k hk => hk)), k.2.mono (fun k hk => hk.elim id (fun e => by have := h.sz; omega)) (Nat.le_refl _), by have := k.1.size; have := h.sz; omega⟩
theorem St.same (h : St N w B0 b w1 T1 B1) (k : Only (fun k => B0 ≤ k) w1 w2 ∧ PB N w2 b (fun k => B0 ≤ k) T2 B2) : St N w B0 b w2 T2 B2 :=
  ⟨h.bl.trans (k.1.below h.sz (fun k hk => hk)), k.2, by have := k.1.size; have := h.sz; omega⟩
theorem St.up (h : St N w B0 b w1 T1 B1) (k : Below w1.heap.size w1 w2) : St N w B0 b w2 T1 B1 :=
  ⟨h.bl.trans (k.mono h.sz), h.pb.up k, by have := k.size; have := h.sz; omega⟩
theorem St.tabs (h : St N w B0 b w1 T1 B1) (hN : N ≤ B0) (hw : B0 ≤ w.heap.size) (hT : Tabs N w) : Tabs N w1 := Tabs.only hT (S := fun k => B0 ≤ k) ⟨h.bl.os, h.bl.tape, h.bl.output, by have := h.bl.size; omega, fun i hi hs => h.bl.block i (by omega)⟩ (fun k hk => Nat.le_trans hN hk)
theorem St.rules (h : St N w B0 b w1 T1 B1) (hN : N ≤ B0) (hw : B0 ≤ w.heap.size) (hR : Rules N w) : Rules N w1 := Rules.only hR (Z := fun k => B0 ≤ k) ⟨h.bl.os, h.bl.tape, h.bl.output, by have := h.bl.size; omega, fun i hi hs => h.bl.block i (by omega)⟩ (fun k hk => Nat.le_trans hN hk)
set_option maxHeartbeats 1000000 in
/-- Undoing the last group gives the text back. -/
theorem undo_back {G : List (List Chg)} {g : List Chg} {cs : List Nat} (h : St N w B0 b w1 T2 B2) (hN : N ≤ B0) (hw : B0 ≤ w.heap.size) (hT : Tabs N w) (hR : Rules N w) (hB : B2 ≤ 100000) (hG : logShut T2.G T2.O = G ++ [g]) (hGl : ∀ x ∈ G, x.length ≤ 100000) (hgl : g.length ≤ 100000) (hch : T2.ch = -1) (hro : T2.S.ro = false) (hok : RevsOkC T2.cs g.reverse) (heq : g.reverse.foldl revCs T2.cs = cs) (hc : revsC g.reverse ≤ 300000) :
    Calls Tryz.prog 32 #[pAt b, .bool false] w1 fun r w' => r = .returned (.int .i64 0) ∧ ∃ T3, T3.cs = cs ∧ St N w B0 b w' T3 (B2 + 300002) := by
  have hl : (logShut T2.G T2.O).length = G.length + 1 := by rw [hG]; simp
  have hu := bUndo (h.tabs hN hw hT) (h.rules hN hw hR) h.pb (fun k hk => Nat.le_trans hN hk) (d := 300000) (by omega) (by
    rw [hG]; intro x hx
    rw [List.mem_append, List.mem_singleton] at hx
    rcases hx with hx | rfl
    · exact Nat.le_trans (hGl x hx) (by omega)
    · omega) false (by rw [hch]; omega) hro (by
    intro m' x hcx hx
    rw [hl] at hcx
    have hm : m' = G.length := by
      have h2 : ((G.length + 1 : Nat) : Int) = ((m' + 1 : Nat) : Int) := hcx
      omega
    subst hm
    rw [hG, List.getElem?_append_right (Nat.le_refl _), Nat.sub_self] at hx
    cases hx
    exact ⟨revs_of _ _ hok, hc⟩)
  refine hu.mono ?_
  rintro r w' ⟨h1, ⟨hc0, _⟩ | ⟨m', x, hcx, hx, rfl, hp⟩⟩
  · rw [hl] at hc0
    exact absurd (show ((G.length + 1 : Nat) : Int) = 0 from hc0) (by omega)
  · rw [hl] at hcx
    have hm : m' = G.length := by
      have h2 : ((G.length + 1 : Nat) : Int) = ((m' + 1 : Nat) : Int) := hcx
      omega
    subst hm
    rw [hG, List.getElem?_append_right (Nat.le_refl _), Nat.sub_self] at hx
    cases hx
    refine ⟨rfl, _, ?_, h.next ⟨h1, hp⟩⟩
    show (revsT _ g.reverse).cs = cs
    rw [revsT_cs]; exact heq
end
end Go.Proofs.YtnbccoelbfgmgaaGreatDoor
/- copyistlaw25.of: a plain buffer with a string, its group closed. -/
namespace Go.Proofs.YtnbccoelbfgmgaaGreatDoor
open Go.RowKit Go.Lib
set_option linter.unusedVariables false
set_option linter.unusedSimpArgs false
section
variable {w w' : World} {N : Nat}
set_option maxHeartbeats 2000000 in
theorem of25_ok (hT : Tabs N w) (hR : Rules N w) (hN : N ≤ w.heap.size) (s : ByteArray) (hs : s.size ≤ 10000) (hv : (charsD s.data.toList).isSome = true) :
    Calls Tryz.prog 6 #[.string s] w fun r w' => ∃ b T, r = .returned (.tuple #[pAt b, .bool true]) ∧ Below w.heap.size w w' ∧
      PB N w' b (fun k => w.heap.size ≤ k ∧ k < w'.heap.size) T 5 ∧ OfT T (chrs s) := by
  have HT := Lib.hid hT
  have HR := Lib.hid hR
  clear hT hR
  go_enter Tryz.func6, Tryz.ntmps6
  go_wp2_with fail
  refine (bufNewX HT.out hN 1 2 3).mono ?_
  rintro e w1 ⟨b, t, l, m, p, o, rfl, hb1, hp1⟩
  have B1 := Lib.hid hb1
  have P1 := Lib.hid hp1
  have z1 := hb1.size
  have HI := Lib.hid (bInsert (HT.out.up hb1) (HR.out.up hb1) hp1 (by omega) rfl s (by omega))
  clear hb1 hp1
  have hf := fitsE_fresh hs hv
  have HI2 := HI.out
  simp only [List.length_nil, hf, if_true] at HI2
  have HV := Lib.hid hv
  have HJ := Lib.hid HI2
  clear HI HI2 hf hv
  go_wp2_with fail
  refine HJ.out.mono ?_
  rintro e w2 ⟨rfl, ho2, hp2⟩
  have P2 := Lib.hid (hp2.bound)
  have O2 := Lib.hid (ho2.below z1 (fun k hk => hk.1))
  have HBd := Lib.hid (bBoundary P2.out (by omega))
  have z2 := ho2.size
  clear hp2 ho2 HJ
  go_wp2_with fail
  refine HBd.out.mono ?_
  rintro e w3 ⟨rfl, ho3, hp3⟩
  have P3 := Lib.hid hp3.bound
  have O3 := Lib.hid (ho3.below (by omega : w.heap.size ≤ w2.heap.size) (fun k hk => hk.1.elim (fun e => e.1) (fun e => by omega)))
  clear hp3 ho3 HBd
  go_wp2_with fail
  go_ret2
  refine ⟨b, withT t m p o l 3 (chrs s), rfl, (B1.out.trans O2.out).trans O3.out, ?_, withT_of _ _ _ _ _ _ _⟩
  have hp := P3.out
  refine PB.mono (B := 0 + 4 + 1) hp (fun k hk => ⟨?_, hk.2⟩) (by decide)
  exact hk.1.elim (fun e => e.1.elim (fun q => q.1) (fun q => by omega)) (fun e => by omega)
end
end Go.Proofs.YtnbccoelbfgmgaaGreatDoor
/- Insert at strings of whatever size (printed by genKcQ.py). -/
namespace Go.Proofs.YtnbccoelbfgmgaaGreatDoor
open Go.RowKit Go.Lib
set_option linter.unusedVariables false
set_option linter.unusedSimpArgs false
theorem valid_big {N : Nat} (s : ByteArray) (w : World) (hs : s.size ≤ 9223372036854775807) (hT : Tabs N w) : Calls Tryz.prog 37 #[.string s] w fun e w' => e = .returned (.bool (vld s)) ∧ Below w.heap.size w w' := by
  have cV : Calls Tryz.prog 77 #[.string s] w _ := Any.utf8_ValidString Tryz.laysValid s w (by omega) hT.1
  unfold vld
  generalize Lib.validD s.data.toList = V at cV ⊢
  go_enter Tryz.func37, Tryz.ntmps37
  go_wp2_with (go_at_call 77; refine cV.mono ?_; rintro e w' ⟨rfl, hb⟩)
  go_ret
  exact ⟨rfl, hb⟩
set_option maxHeartbeats 4000000 in
set_option maxRecDepth 1000000 in
theorem count_big (s : ByteArray) (w : World) (hs : s.size ≤ 9223372036854775807) :
    Calls Tryz.prog 78 #[.string s] w fun e w' => e = .returned (.int .i64 (Lib.runeCount s)) ∧ ∃ pos, w' = w.iter s pos := by
  go_enter Tryz.func78, Tryz.ntmps78
  go_wp2
  go_loopw [2] (fun n w' => ∃ (pos b acc : Nat), w' = w.iter s pos ∧ n = .int .i64 acc ∧ acc + Lib.runeCountFrom s b pos = Lib.runeCount s ∧ s.size ≤ pos + b ∧ acc ≤ pos) (fun _ w' => s.size - w'.iterPos w.heap.size)
  case atStart => exact ⟨0, s.size, 0, rfl, rfl, by simp [Lib.runeCount], by omega, Nat.le_refl _⟩
  case round =>
    obtain ⟨pos, b, acc, rfl, rfl, hc, hb, ha⟩ := hrel
    by_cases hp : pos < s.size
    · have hnx : ∀ ty, (Instr.next (.pointer (some ⟨w.heap.size, 0, none⟩)) true ty).run Tryz.prog (w.iter s pos) = _ := fun ty => run_next_any w s pos ty hp
      have hwd := Lib.decode_width_pos s pos hp
      go_wp2
      go_roundw
      case rel =>
        cases b with
        | zero => omega
        | succ b =>
          refine ⟨pos + (Utf8.decode s pos).2, b, acc + 1, rfl, by go_num, ?_, by omega, by omega⟩
          rw [← hc]
          simp [Lib.runeCountFrom, hp]
          omega
      case measure =>
        simp
        omega
    · have hnx : ∀ ty, (Instr.next (.pointer (some ⟨w.heap.size, 0, none⟩)) true ty).run Tryz.prog (w.iter s pos) = _ := fun ty => run_next_end w s pos ty hp
      go_wp2
      go_ret
      rw [Lib.runeCountFrom_end s b pos hp, Nat.add_zero] at hc
      subst hc
      exact ⟨rfl, _, rfl⟩
set_option maxHeartbeats 1000000 in
theorem runesLen_big {N : Nat} (s : ByteArray) (w : World) (hs : s.size ≤ 9223372036854775807) (hT : Tabs N w) : Calls Tryz.prog 38 #[.string s] w fun e w' => e = .returned (.int .i64 (rlenG s)) ∧ Below w.heap.size w w' := by
  have hV := valid_big s w hs hT
  unfold rlenG
  have HV := Lib.hid hV
  clear hV
  cases hv : vld s with
  | true =>
    rw [hv] at HV
    go_enter Tryz.func38, Tryz.ntmps38
    go_wp2_with fail
    refine HV.out.mono ?_
    rintro e w' ⟨rfl, hb⟩
    have hC : Calls Tryz.prog 78 #[.string s] w' _ := count_big s w' (by omega)
    go_wp2_with fail
    refine hC.mono ?_
    rintro e w2 ⟨rfl, pos, rfl⟩
    go_wp2_with fail
    go_ret
    exact ⟨ret_int (by simp), up2 hb (below1 _ _)⟩
  | false =>
    rw [hv] at HV
    go_enter Tryz.func38, Tryz.ntmps38
    go_wp2_with fail
    refine HV.out.mono ?_
    rintro e w' ⟨rfl, hb⟩
    go_wp2_with fail
    go_ret
    exact ⟨ret_int (by simp), hb⟩
section
variable {w w' : World} {b : Nat} {S : BS}
set_option maxHeartbeats 1000000 in
theorem fits1_big {N k0 k1 k2 n : Nat} (hT : Tabs N w) (h : BufB w b S) (s : ByteArray) (hs : s.size ≤ 9223372036854775807) (less : Int) (hl0 : 0 ≤ less) (hl1 : less ≤ n) (hn : n ≤ 0)
    (hS : ∀ w1, Below w.heap.size w w1 → Calls Tryz.prog 61 #[pAt S.t] w1 fun r w2 => r = .returned (.int .i64 n) ∧ Below w1.heap.size w1 w2)
    (h0 : w.cell? ⟨k0, 0, none⟩ = some (.string s)) (h1 : w.cell? ⟨k1, 0, none⟩ = some (pAt b)) (h2 : w.cell? ⟨k2, 0, none⟩ = some (.int .i64 less)) :
    Calls Tryz.prog 151 #[pAt k0, pAt k1, pAt k2] w fun r w2 => r = .returned (.int .i64 (fitsE s n less)) ∧ Below w.heap.size w w2 := by
  have hV := valid_big s w (by omega) hT
  have HT := Lib.hid hT
  have HB := Lib.hid h
  have HS := Lib.hid hS
  have HH0 := Lib.hid h0
  have HH1 := Lib.hid h1
  have HH2 := Lib.hid h2
  unfold fitsE
  clear hT h hS h1 h2
  cases hv : vld s with
  | false =>
    rw [hv] at hV
    go_enter Tryz.func151, Tryz.ntmps151
    go_wp2_with fail
    refine hV.mono ?_
    rintro r w1 ⟨rfl, hb1⟩
    go_wp2_with fail
    go_ret
    exact ⟨rfl, hb1⟩
  | true =>
    rw [hv] at hV
    have hlen : rlenG s ≤ s.size := by
      have := rlenG_chars (s := s) (by rw [← vld_chars]; exact hv)
      have := chrs_len s
      omega
    have HVV := Lib.hid hv
    rw [if_pos rfl]
    obtain ⟨R, hR⟩ : ∃ R : Int, R = if (65536 : Int) < (n : Int) - less + rlenG s then 4 else 0 := ⟨_, rfl⟩
    rw [← hR]
    have HR := Lib.hid hR
    clear hv hR
    go_enter Tryz.func151, Tryz.ntmps151
    go_wp2_with fail
    refine hV.mono ?_
    rintro r w1 ⟨rfl, hb1⟩
    clear hV h0
    have HB1 := Lib.hid hb1
    clear hb1
    go_wp2_with fail
    have q0 : ∀ x : UpW w1.heap.size w1, x.w.cell? ⟨k0, 0, none⟩ = some (.string s) := fun x => cell_up HH0.out (up2 HB1.out x.up)
    have q1 : ∀ x : UpW w1.heap.size w1, x.w.cell? ⟨k1, 0, none⟩ = some (pAt b) := fun x => cell_up HH1.out (up2 HB1.out x.up)
    have q2 : ∀ x : UpW w1.heap.size w1, x.w.cell? ⟨k2, 0, none⟩ = some (.int .i64 less) := fun x => cell_up HH2.out (up2 HB1.out x.up)
    have q9 : ∀ x : UpW w1.heap.size w1, x.w.cell? ⟨b, 9, none⟩ = some (pAt S.t) := fun x => ((HB.out.up HB1.out).up x.up).cell (j := 9) rfl
    have s1 : IntKind.i64.wrap ((n : Int) - less) = (n : Int) - less := IntWalk.i64_in _ (by omega)
    have s2 : IntKind.i64.wrap ((n : Int) - less + rlenG s) = (n : Int) - less + rlenG s := IntWalk.i64_in _ (by omega)
    have HSS := Lib.hid fun (x : UpW w1.heap.size w1) => HS.out x.w (up2 HB1.out x.up)
    have HLL := Lib.hid fun (x : UpW w1.heap.size w1) => runesLen_big s x.w (by omega) ((HT.out.up HB1.out).up x.up)
    refine wp_region_up w1.heap.size (by kernel_rfl) (by kernel_rfl) ?_
    repeat (go_big_quiet_step (first | exact Calls.up ‹_› (Nat.le_refl _) (HSS.out _) | exact Calls.up ‹_› (Nat.le_refl _) (HLL.out _)))
    refine wpQuiet_nil ?_
    rintro ⟨w2, hb2⟩
    dsimp only
    clear q0 q1 q2 q9
    by_cases hlt : (65536 : Int) < (n : Int) - less + rlenG s
    · have d1 : decide ((65536 : Int) < (n : Int) - less + rlenG s) = true := decide_eq_true hlt
      have hr : R = 4 := by rw [HR.out, if_pos hlt]
      subst hr
      go_wp2_with fail
      go_ret
      exact ⟨rfl, up2 HB1.out hb2⟩
    · have d1 : decide ((65536 : Int) < (n : Int) - less + rlenG s) = false := decide_eq_false hlt
      have hr : R = 0 := by rw [HR.out, if_neg hlt]
      subst hr
      go_wp2_with fail
      go_ret
      exact ⟨rfl, up2 HB1.out hb2⟩
set_option maxHeartbeats 1000000 in
theorem fits_big {N n : Nat} (hT : Tabs N w) (h : BufB w b S) (s : ByteArray) (hs : s.size ≤ 9223372036854775807) (less : Int) (hn : n ≤ 0)
    (hS : ∀ w1, Below w.heap.size w w1 → Calls Tryz.prog 61 #[pAt S.t] w1 fun r w2 => r = .returned (.int .i64 n) ∧ Below w1.heap.size w1 w2) :
    Calls Tryz.prog 104 #[pAt b, .string s, .int .i64 less] w fun r w' => ∃ k0 k1 k2, r = .returned (fitC k0 k1 k2 (fitsE s n less)).val ∧ Below w.heap.size w w' ∧ ChkAt w' (0 ≤ less ∧ less ≤ n) (fitC k0 k1 k2 (fitsE s n less)) := by
  have HT := Lib.hid hT
  have HB := Lib.hid h
  have HS := Lib.hid hS
  clear hT h hS
  obtain ⟨E, hE⟩ : ∃ E : Int, fitsE s n less = E := ⟨_, rfl⟩
  rw [hE]
  have HE := Lib.hid hE
  clear hE
  go_enter Tryz.func104, Tryz.ntmps104
  go_wp2_with fail
  go_ret
  have hb3 := below3 w (.cells #[pAt b] 26) (.cells #[.string s] 9) (.cells #[.int .i64 less] 3)
  obtain ⟨a0, a1, a2⟩ := al3 w (pAt b) (.string s) (.int .i64 less) 26 9 3
  generalize ((w.alloc (.cells #[pAt b] 26)).alloc (.cells #[.string s] 9)).alloc (.cells #[.int .i64 less] 3) = W at *
  refine ⟨_, _, _, rfl, hb3, enters_mk Tryz.func151 (by kernel_rfl) rfl, fun ⟨p1, p2⟩ w1 hb1 => ?_⟩
  rw [← HE.out]
  exact fits1_big ((HT.out.up hb3).up hb1) ((HB.out.up hb3).up hb1) s hs less p1 p2 hn (fun w2 hb2 => HS.out w2 (up2 hb3 (up2 hb1 hb2))) (cell_up a1 hb1) (cell_up a0 hb1) (cell_up a2 hb1)
end
section
variable {w w' : World} {b mm : Nat} {Fg Fl : Nat → Prop} {pr ev : Int} {S : BS} {cs : List Nat} {L : LgS}
set_option maxRecDepth 100000 in
set_option maxHeartbeats 4000000 in
theorem binsert_big {N : Nat} (hT : Tabs N w) (hR : Rules N w) (h : PlainX w b Fg Fl mm pr ev S cs L) (hlg : S.logs = true) (hro : S.ro = false) (hab : Abv N b Fg Fl S)
    (hsn : Sane S cs.length) (htk : S.tick ≤ 1000000) (hrm : Room L 4) (s : ByteArray) (hs : s.size ≤ 9223372036854775807) (hz : cs.length ≤ 0) (hE0 : fitsE s cs.length 0 ≠ 0) (bf : Bool) :
    Calls Tryz.prog 56 #[pAt b, .string s, .bool bf] w fun r w' => r = .returned (.int .i64 (fitsE s cs.length 0)) ∧ Below w.heap.size w w' := by
  have hle := h.gap.le
  have hrp := reachB_pt hsn
  have hgp := gapB_free hro (S.pt : Int)
  have hsl := chrs_len s
  obtain ⟨P, hP⟩ : ∃ P, P = S.pt := ⟨_, rfl⟩
  have c0 : w.cell? ⟨b, 0, none⟩ = some (.int .i64 (P : Int)) := by rw [hP]; exact h.blk.cell (j := 0) rfl
  have HB := Lib.hid (⟨hlg, hab, hsn, htk, hrm, hs, hle, hz, hP⟩ : _ ∧ _ ∧ _ ∧ _ ∧ _ ∧ _ ∧ _ ∧ _ ∧ _)
  have HT := Lib.hid hT
  have HR := Lib.hid hR
  have H := Lib.hid h
  have HN := Lib.hid (bnoneB h.blk)
  rw [← hP] at hrp hgp
  have HRP := Lib.hid (⟨hrp, hgp⟩ : _ ∧ _)
  have HNE := Lib.hid hE0
  clear hz hE0 hT hR h hlg hro hab hsn htk hrm hs hle hsl hP hrp hgp
  go_enter Tryz.func56, Tryz.ntmps56
  go_wp2_with fail
  refine HN.out.mono ?_
  rintro e w0 ⟨rfl, rfl⟩
  go_wp2_with fail
  refine (within_ok H.out.blk P P).mono ?_
  rintro e w1 ⟨k1, k2, rfl, hb1, hc1⟩
  rw [HRP.out.1] at hc1 ⊢
  change ChkAt w1 True (unlC k1 k2 0) at hc1
  have C1 := Lib.hid hc1
  have B1 := Lib.hid hb1
  clear hc1 hb1 HN
  go_wp2_with fail
  refine (gapOpen_ok (H.out.blk.up B1.out) (H.out.up B1.out).getAt P).mono ?_
  rintro e w2 ⟨k3, k4, rfl, hb2, hc2⟩
  rw [HRP.out.2] at hc2 ⊢
  change ChkAt w2 _ (unlC k3 k4 0) at hc2
  have C2 := Lib.hid hc2
  have B2 := Lib.hid (up2 B1.out hb2)
  have C12 := Lib.hid (C1.out.up hb2)
  clear hc2 hb2 C1 B1
  go_wp2_with fail
  refine (fits_big (n := cs.length) (HT.out.up B2.out) (H.out.blk.up B2.out) s (by have := HB.out; omega) 0 (by have := HB.out; omega) (H.out.up B2.out).size).mono ?_
  rintro e w3 ⟨k5, k6, k7, rfl, hb3, hc3⟩
  obtain ⟨E, hE⟩ : ∃ E, E = fitsE s cs.length 0 := ⟨_, rfl⟩
  rw [← hE] at hc3 ⊢
  have HE := Lib.hid hE
  clear hE
  have C3 := Lib.hid hc3
  have B3 := Lib.hid (up2 B2.out hb3)
  have C13 := Lib.hid (C12.out.up hb3)
  have C23 := Lib.hid (C2.out.up hb3)
  clear hc3 hb3 C2 B2 C12
  go_wp2_with fail
  have hb4 := below1 w3 (.cells #[(unlC k1 k2 0).val, (unlC k3 k4 0).val, (fitC k5 k6 k7 E).val] 67)
  have hR3 := RSl.arr (enc := encK) (zs := [unlC k1 k2 0, unlC k3 k4 0, fitC k5 k6 k7 E]) (MapKept.heap_alloc w3 (.cells #[(unlC k1 k2 0).val, (unlC k3 k4 0).val, (fitC k5 k6 k7 E).val] 67)).1 rfl
  have HF := first_any hR3 3 (by simp) (by
    intro c hc
    simp only [List.mem_cons, List.not_mem_nil, or_false] at hc
    rcases hc with rfl | rfl | rfl
    · exact C13.out.en
    · exact C23.out.en
    · exact C3.out.en) (by
    intro i c w4 hi hz hb
    rcases i with _ | _ | _ | i
    · cases hi; exact C13.out.run trivial w4 (up2 hb4 hb)
    · cases hi; exact C23.out.run ⟨by omega, by have := HB.out.2.2.1.ph; have := HB.out.2.2.1.hn; have := HB.out; omega⟩ w4 (up2 hb4 hb)
    · cases hi; exact C3.out.run ⟨by omega, by omega⟩ w4 (up2 hb4 hb)
    · simp at hi)
  have B4 := Lib.hid (up2 B3.out hb4)
  have hfe : firstE [unlC k1 k2 0, unlC k3 k4 0, fitC k5 k6 k7 E] = E := by
    simp only [firstE, if_pos]
    split
    · rename_i h; exact h.symm
    · rfl
  rw [hfe] at HF
  have HF := Lib.hid HF
  clear hR3 hb4 C13 C23 C3 B3 hfe
  refine HF.out.mono ?_
  rintro e w5 ⟨rfl, hb5⟩
  have B5 := Lib.hid (up2 B4.out hb5)
  clear hb5 B4 HF
  by_cases hE : E = 0
  · exact absurd (HE.out.symm.trans hE) HNE.out
  · have e1 : ((E : Int) == 0) = false := by simpa using hE
    have e2 : (E = 0) = False := eq_false hE
    have HEN := Lib.hid hE
    clear hE
    go_wp2_with fail
    go_ret
    have hE := HEN.out
    exact ⟨by rw [← HE.out]; rfl, B5.out⟩
end
section
variable {N : Nat} {w w' : World} {b : Nat} {F : Nat → Prop} {T : Tx} {B : Nat}
theorem pinsert_big (hT : Tabs N w) (hR : Rules N w) (h : PB N w b F T B) (hB : B ≤ 900000) (hro : T.S.ro = false) (s : ByteArray) (hs : s.size ≤ 9223372036854775807) (hz : T.cs.length ≤ 0) (hE0 : fitsE s T.cs.length 0 ≠ 0) (bf : Bool) :
    Calls Tryz.prog 56 #[pAt b, .string s, .bool bf] w fun r w' => r = .returned (.int .i64 (fitsE s T.cs.length 0)) ∧ Below w.heap.size w w' := by
  obtain ⟨Fg, Fl, mm, pr, ev, co, nw, hx, hd⟩ := h
  have h1 := hd.o; have h2 := hd.n1; have h3 := hd.c1; have h4 := hd.tick; have h5 := hd.g; have h6 := hd.n0; have h7 := hd.c0
  exact binsert_big hT hR hx hd.logs hro hd.abv hd.sane (by omega) ⟨by dsimp only; omega, hd.n0, by dsimp only; omega, hd.c0, by dsimp only; omega⟩ s hs hz hE0 bf
set_option maxHeartbeats 1000000 in
theorem bInsert_big (hT : Tabs N w) (hR : Rules N w) (h : PB N w b F T B) (hB : B ≤ 900000) (hro : T.S.ro = false) (s : ByteArray) (hs : s.size ≤ 9223372036854775807) (hz : T.cs.length ≤ 0) (hE0 : fitsE s T.cs.length 0 ≠ 0) :
    Calls Tryz.prog 21 #[pAt b, .string s] w fun r w' => r = .returned (.int .i64 (fitsE s T.cs.length 0)) ∧ Below w.heap.size w w' := by
  have HI := Lib.hid (pinsert_big hT hR h hB hro s hs hz hE0 false)
  clear hT hR h hs hB hro hz hE0
  generalize fitsE s T.cs.length 0 = E at *
  go_enter Tryz.func21, Tryz.ntmps21
  go_wp2_with fail
  refine HI.out.mono ?_
  rintro r w' ⟨rfl, h1⟩
  have H1 := Lib.hid h1
  clear h1
  go_wp2_with fail
  go_ret
  exact ⟨rfl, H1.out⟩
/-- A string that is too long for a buffer. -/
theorem fits_long {s : ByteArray} (hv : (charsD s.data.toList).isSome = true) (hs : 262144 < s.size) : fitsE s 0 0 = 4 := by
  have h1 := encS_le (chrs s)
  rw [encS_chrs hv] at h1
  unfold fitsE
  rw [vld_chars, if_pos hv, rlenG_chars hv, if_pos (by omega)]
set_option maxHeartbeats 4000000 in
/-- of at any valid string. -/
theorem of25_any (hT : Tabs N w) (hR : Rules N w) (hN : N ≤ w.heap.size) (s : ByteArray) (hs : s.size ≤ 9223372036854775807) (hv : (charsD s.data.toList).isSome = true) (hl : 10000 < s.size) :
    Calls Tryz.prog 6 #[.string s] w fun r w' => ∃ b bl, r = .returned (.tuple #[pAt b, .bool bl]) ∧ Below w.heap.size w w' := by
  have HT := Lib.hid hT
  have HR := Lib.hid hR
  have HV := Lib.hid hv
  have HS := Lib.hid hs
  clear hT hR hv hs hl
  go_enter Tryz.func6, Tryz.ntmps6
  go_wp2_with fail
  refine (bufNewX HT.out hN 1 2 3).mono ?_
  rintro e w1 ⟨b, t, l, m, p, o, rfl, hb1, hp1⟩
  have B1 := Lib.hid hb1
  have P1 := Lib.hid hp1
  have z1 := hb1.size
  by_cases hbig : 262144 < s.size
  · have hf := fits_long HV.out hbig
    have HI := bInsert_big (HT.out.up hb1) (HR.out.up hb1) hp1 (by omega) rfl s HS.out (by simp) (by simp only [List.length_nil, hf]; omega)
    simp only [List.length_nil, hf] at HI
    have HJ := Lib.hid HI
    clear HI hf hb1 hp1
    go_wp2_with fail
    refine HJ.out.mono ?_
    rintro e w2 ⟨rfl, hb2⟩
    have B2 := Lib.hid (up2 B1.out hb2)
    clear hb2
    go_wp2_with fail
    go_ret2
    exact ⟨_, _, rfl, B2.out⟩
  · have HI := bInsert (HT.out.up hb1) (HR.out.up hb1) hp1 (by omega) rfl s (by omega)
    simp only [List.length_nil] at HI
    by_cases h0 : fitsE s 0 0 = 0
    · simp only [h0, if_true] at HI
      have HJ3 := Lib.hid HI
      clear HI h0 hbig hb1 hp1
      go_wp2_with fail
      refine HJ3.out.mono ?_
      rintro e w2 ⟨rfl, ho2, hp2⟩
      have P2 := Lib.hid (hp2.bound)
      have O2 := Lib.hid (ho2.below z1 (fun k hk => hk.1))
      have HBd := Lib.hid (bBoundary P2.out (by omega))
      have z2 := ho2.size
      clear hp2 ho2 HJ3
      go_wp2_with fail
      refine HBd.out.mono ?_
      rintro e w3 ⟨rfl, ho3, hp3⟩
      have O3 := Lib.hid (ho3.below (by omega : w.heap.size ≤ w2.heap.size) (fun k hk => hk.1.elim (fun e => e.1) (fun e => by omega)))
      clear hp3 ho3 HBd
      go_wp2_with fail
      go_ret2
      exact ⟨_, _, rfl, (B1.out.trans O2.out).trans O3.out⟩
    · rw [if_neg h0] at HI
      obtain ⟨E, hE⟩ : ∃ E, E = fitsE s 0 0 := ⟨_, rfl⟩
      rw [← hE] at HI h0
      have e1 : (E == 0) = false := by simpa using h0
      have e2 : (E = 0) = False := eq_false h0
      have HJ3 := Lib.hid HI
      clear HI hE h0 hbig hb1 hp1
      go_wp2_with fail
      refine HJ3.out.mono ?_
      rintro e w2 ⟨rfl, ho2, hp2⟩
      have O2 := Lib.hid (ho2.below z1 (fun k hk => hk.1))
      clear hp2 ho2 HJ3
      go_wp2_with fail
      go_ret2
      exact ⟨_, _, rfl, B1.out.trans O2.out⟩
end
end Go.Proofs.YtnbccoelbfgmgaaGreatDoor
/- Package kill: a ring in memory; none, place, check, New, turn, Yank, Pop. -/
namespace Go.Proofs.YtnbccoelbfgmgaaGreatDoor
open Go.RowKit
set_option linter.unusedVariables false

/-- Block b holds n cells. -/
def RBlk (w : World) (b n : Nat) : Prop := ∃ cs T fr, w.heap[b]? = some (.cells cs T fr) ∧ cs.size = n
theorem RBlk.kept {w w' : World} {b n : Nat} (h : RBlk w b n) (hb : w'.heap[b]? = w.heap[b]?) : RBlk w' b n := by obtain ⟨cs, T, fr, h, e⟩ := h; exact ⟨cs, T, fr, hb.trans h, e⟩
theorem RBlk.set {w : World} {b n : Nat} (h : RBlk w b n) (o : Nat) (u : Value) : RBlk (w.setCell ⟨b, o, none⟩ u) b n := by
  obtain ⟨cs, T, fr, h, e⟩ := h
  exact ⟨cs.setIfInBounds o u, T, fr, by simp [World.setCell, Array.getElem?_modify, h], by simpa using e⟩
/-- The ring at block b: its 60 strings, the newest one's place, how many there are, the capacity, the current one. -/
structure RingAt (w : World) (b : Nat) (ts : List ByteArray) (fi n most at_ : Nat) : Prop where
  len : ts.length = 60
  tx : ∀ (i : Nat) (s : ByteArray), ts[i]? = some s → w.cell? ⟨b, i, none⟩ = some (.string s)
  c60 : w.cell? ⟨b, 60, none⟩ = some (.int .i64 fi)
  c61 : w.cell? ⟨b, 61, none⟩ = some (.int .i64 n)
  c62 : w.cell? ⟨b, 62, none⟩ = some (.int .i64 most)
  c63 : w.cell? ⟨b, 63, none⟩ = some (.int .i64 at_)
  fz : ∀ i, i < 64 → w.frozen? ⟨b, i, none⟩ = false
  hfi : fi < 60
  hn : n ≤ most
  hm0 : 1 ≤ most
  hm1 : most ≤ 60
  hat : at_ < n ∨ at_ = 0
  blk : RBlk w b 64
section
variable {w w' : World} {b : Nat} {ts : List ByteArray} {fi n most at_ : Nat}
theorem RingAt.lt (h : RingAt w b ts fi n most at_) : b < w.heap.size := lt_of_cell h.c60
theorem RingAt.kept (h : RingAt w b ts fi n most at_) (hb : w'.heap[b]? = w.heap[b]?) : RingAt w' b ts fi n most at_ :=
  ⟨h.len, fun i s hs => (World.cell?_of_block (w := w) (a := ⟨b, i, none⟩) hb).trans (h.tx i s hs), (World.cell?_of_block (w := w) (a := ⟨b, 60, none⟩) hb).trans h.c60, (World.cell?_of_block (w := w) (a := ⟨b, 61, none⟩) hb).trans h.c61, (World.cell?_of_block (w := w) (a := ⟨b, 62, none⟩) hb).trans h.c62, (World.cell?_of_block (w := w) (a := ⟨b, 63, none⟩) hb).trans h.c63,
   fun i hi => (World.frozen?_of_block (w := w) (a := ⟨b, i, none⟩) hb).trans (h.fz i hi), h.hfi, h.hn, h.hm0, h.hm1, h.hat, h.blk.kept hb⟩
theorem RingAt.up (h : RingAt w b ts fi n most at_) (hb : Below w.heap.size w w') : RingAt w' b ts fi n most at_ := h.kept (hb.block b h.lt)
theorem RingAt.setAt (h : RingAt w b ts fi n most at_) (k : Nat) (hk : k < n ∨ k = 0) : RingAt (w.setCell ⟨b, 63, none⟩ (.int .i64 k)) b ts fi n most k := by
  have hlt : ∀ (i : Nat) (s : ByteArray), ts[i]? = some s → i < 60 := fun i s hs => by have := (List.getElem?_eq_some_iff.1 hs).1; have := h.len; omega
  refine ⟨h.len, fun i s hs => ?_, ?_, ?_, ?_, ?_, fun i hi => by rw [World.frozen?_setCell]; exact h.fz i hi, h.hfi, h.hn, h.hm0, h.hm1, hk, h.blk.set _ _⟩
  · rw [World.cell?_setCell_other _ _ _ _ (by have := hlt i s hs; simp <;> omega)]; exact h.tx i s hs
  · rw [World.cell?_setCell_other _ _ _ _ (by simp)]; exact h.c60
  · rw [World.cell?_setCell_other _ _ _ _ (by simp)]; exact h.c61
  · rw [World.cell?_setCell_other _ _ _ _ (by simp)]; exact h.c62
  · exact World.cell?_setCell_same' _ _ _ (by rw [h.c63]; rfl)
/-- The i-th newest string. -/
def ringT (ts : List ByteArray) (fi i : Nat) : ByteArray := ts.getD ((fi + i) % 60) ByteArray.empty
theorem RingAt.str (h : RingAt w b ts fi n most at_) (i : Nat) : ts[(fi + i) % 60]? = some (ringT ts fi i) := by
  have : (fi + i) % 60 < ts.length := by rw [h.len]; omega
  unfold ringT
  rw [List.getD_eq_getElem?_getD, List.getElem?_eq_getElem this]; rfl

set_option maxHeartbeats 400000 in
theorem rnone_no (h : RingAt w b ts fi n most at_) : Calls Tryz.prog 36 #[.pointer (some ⟨b, 0, none⟩)] w fun e w' => e = .returned (.bool false) ∧ w = w' := by
  have c := h.c62
  have hz : ((most : Int) == 0) = false := by have := h.hm0; simp; omega
  go_enter Tryz.func36, Tryz.ntmps36
  go_wp2
  go_ret
  exact ⟨rfl, rfl⟩
set_option maxHeartbeats 400000 in
theorem rplace (h : RingAt w b ts fi n most at_) (i : Nat) (hi : i ≤ 1000) : Calls Tryz.prog 41 #[.pointer (some ⟨b, 0, none⟩), .int .i64 i] w fun e w' => e = .returned (.int .i64 ((fi + i) % 60 : Nat)) ∧ w = w' := by
  have c := h.c60
  have hf := h.hfi
  go_enter Tryz.func41, Tryz.ntmps41
  go_wp2
  go_ret
  exact ⟨ret_int (by omega), rfl⟩
set_option maxHeartbeats 400000 in
theorem rcheck_ok (h : RingAt w b ts fi n most at_) (hn : 0 < n) : Calls Tryz.prog 39 #[.pointer (some ⟨b, 0, none⟩)] w fun e w' => e = .returned (.int .i64 0) ∧ w = w' := by
  have c := h.c61
  have hz : ((n : Int) == 0) = false := by simp; omega
  go_enter Tryz.func39, Tryz.ntmps39
  go_wp2_with (go_at_call 36; refine (rnone_no h).mono ?_; rintro e w' ⟨rfl, rfl⟩)
  go_ret
  exact ⟨rfl, rfl⟩
set_option maxHeartbeats 400000 in
theorem rcheck_end (h : RingAt w b ts fi 0 most at_) : Calls Tryz.prog 39 #[.pointer (some ⟨b, 0, none⟩)] w fun e w' => e = .returned (.int .i64 13) ∧ w = w' := by
  have c := h.c61
  go_enter Tryz.func39, Tryz.ntmps39
  go_wp2_with (go_at_call 36; refine (rnone_no h).mono ?_; rintro e w' ⟨rfl, rfl⟩)
  go_ret
  exact ⟨rfl, rfl⟩

/-- Where the current one goes. -/
def turnTo (n at_ : Nat) (by_ : Int) : Nat := (((at_ : Int) + by_) % n).toNat
theorem turn_reckon (n at_ : Nat) (by_ : Int) (hn : 0 < n) (h1 : -(n : Int) ≤ by_) (h2 : by_ < n) (hat : at_ < n) : ((((at_ : Int) + by_).tmod n) + n).tmod n = (turnTo n at_ by_ : Nat) := by
  unfold turnTo
  have hp : (0 : Int) < n := by omega
  have hnn := Int.emod_nonneg ((at_ : Int) + by_) (by omega : (n : Int) ≠ 0)
  rw [Int.toNat_of_nonneg hnn]
  by_cases hs : 0 ≤ (at_ : Int) + by_
  · rw [Int.tmod_eq_emod_of_nonneg hs, Int.tmod_eq_emod_of_nonneg (by omega), Int.add_emod_right, Int.emod_emod_of_dvd _ (Int.dvd_refl _)]
  · have e : ((at_ : Int) + by_).tmod n = -((-((at_ : Int) + by_)) % n) := by
      have := Int.neg_tmod (-((at_ : Int) + by_)) n
      rw [Int.neg_neg] at this
      rw [this, Int.tmod_eq_emod_of_nonneg (by omega)]
    rw [e]
    have hm0 := Int.emod_nonneg (-((at_ : Int) + by_)) (by omega : (n : Int) ≠ 0)
    have hm1 := Int.emod_lt_of_pos (-((at_ : Int) + by_)) hp
    rw [Int.tmod_eq_emod_of_nonneg (by omega), Int.add_emod_right]
    have hd : (-((at_ : Int) + by_)) = n * ((-((at_ : Int) + by_)) / n) + (-((at_ : Int) + by_)) % n := (Int.mul_ediv_add_emod _ _).symm
    have e2 : (at_ : Int) + by_ = -((-((at_ : Int) + by_)) % n) + n * (-((-((at_ : Int) + by_)) / n)) := by
      rw [Int.mul_neg]; omega
    conv => rhs; rw [e2]
    rw [Int.add_mul_emod_self_left]
theorem turnTo_lt (n at_ : Nat) (by_ : Int) (hn : 0 < n) : turnTo n at_ by_ < n := by
  unfold turnTo
  have := Int.emod_lt_of_pos ((at_ : Int) + by_) (by omega : (0 : Int) < n)
  have := Int.emod_nonneg ((at_ : Int) + by_) (by omega : (n : Int) ≠ 0)
  omega
theorem tmod_bd (a : Int) (n : Nat) (hn : 0 < n) : -(n : Int) < a.tmod n ∧ a.tmod n < n := by
  have h1 := Int.tmod_lt_of_pos a (by omega : (0 : Int) < n)
  have h2 := Int.tmod_lt_of_pos (-a) (by omega : (0 : Int) < n)
  rw [Int.neg_tmod] at h2
  omega

def TurnPost (w : World) (b : Nat) (ts : List ByteArray) (fi n most k : Nat) (e : Ending) (w' : World) : Prop :=
  e = .returned (.tuple #[.string (ringT ts fi k), .int .i64 0]) ∧ RingAt w' b ts fi n most k ∧ Only (· = b) w w'
set_option maxRecDepth 100000 in
set_option maxHeartbeats 1000000 in
theorem rturn (h : RingAt w b ts fi n most at_) (hn : 0 < n) (by_ : Int) (h1 : -(n : Int) ≤ by_) (h2 : by_ < n) : Calls Tryz.prog 40 #[.pointer (some ⟨b, 0, none⟩), .int .i64 by_] w (TurnPost w b ts fi n most (turnTo n at_ by_)) := by
  have hat : at_ < n := by rcases h.hat with h | h <;> omega
  have hn60 : n ≤ 60 := Nat.le_trans h.hn h.hm1
  have hrk := turn_reckon n at_ by_ hn h1 h2 hat
  have hkl := turnTo_lt n at_ by_ hn
  obtain ⟨t1, t2⟩ := tmod_bd ((at_ : Int) + by_) n hn
  generalize turnTo n at_ by_ = k at *
  have C1 : ∀ x : UpW w.heap.size w, x.w.cell? ⟨b, 61, none⟩ = some (.int .i64 n) := fun x => (x.up.cell (p := ⟨b, 61, none⟩) h.lt).trans h.c61
  have C3 : ∀ x : UpW w.heap.size w, x.w.cell? ⟨b, 63, none⟩ = some (.int .i64 at_) := fun x => (x.up.cell (p := ⟨b, 63, none⟩) h.lt).trans h.c63
  have w1 : IntKind.i64.wrap ((at_ : Int) + by_) = (at_ : Int) + by_ := IntWalk.i64_in _ (by omega)
  have w2 : IntKind.i64.wrap (((at_ : Int) + by_).tmod n + n) = ((at_ : Int) + by_).tmod n + n := IntWalk.i64_in _ (by omega)
  have hnz : ((n : Int) == 0) = false := by simp; omega
  have hd := h.c63
  have hz := h.fz 63 (by omega)
  have HS : RingAt (w.setCell ⟨b, 63, none⟩ (.int .i64 k)).drew b ts fi n most k := (h.setAt k (.inl hkl)).kept rfl
  have hrk' : (((at_ : Int) + by_).tmod n + n) % n = k := by rw [← Int.tmod_eq_emod_of_nonneg (by omega)]; exact hrk
  have HRK := Lib.hid hrk'
  have HH := Lib.hid HS
  clear hrk hrk'
  go_enter Tryz.func40, Tryz.ntmps40
  go_wp2_with fail
  refine wp_region_mix w.heap.size 24 [] [0, 1, 2, 3, 4, 5, 6, 7, 8, 9, 10, 11, 12, 13, 14, 15, 16, 17, 18, 19, 20, 21, 22, 23] (by kernel_rfl) (fun c d v a w h => by cases d <;> exact h) (by kernel_rfl) ?_
  simp only [wpMix, pk_nil, pk_cons, pushAt_zero, pushAt_succ, List.drop_succ_cons, List.drop_zero]
  repeat (go_big_quiet_step (fail))
  refine wpQuiet_nil ?_
  clear C1 C3 w1 w2
  rw [HRK.out]
  have hob : Only (· = b) w (w.setCell ⟨b, 63, none⟩ (.int .i64 k)).drew := ((Only.refl (· = b) w).setCell (p := ⟨b, 63, none⟩) (show b = b from rfl) _).drew
  go_wp2_with fail
  generalize (w.setCell ⟨b, 63, none⟩ (.int .i64 k)).drew = W1 at *
  have hr := HH.out
  have hst := hr.str k
  have hp : (fi + k) % 60 < 60 := Nat.mod_lt _ (by omega)
  have hpl := rplace (HH.out.kept (w' := W1.drew) rfl) k (by omega)
  generalize (fi + k) % 60 = p at *
  have D3 : ∀ x : UpW W1.heap.size W1, x.w.cell? ⟨b, 63, none⟩ = some (.int .i64 k) := fun x => (x.up.cell (p := ⟨b, 63, none⟩) hr.lt).trans hr.c63
  have DP : ∀ x : UpW W1.heap.size W1, x.w.cell? ⟨b, p, none⟩ = some (.string (ringT ts fi k)) := fun x => (x.up.cell (p := ⟨b, p, none⟩) hr.lt).trans (hr.tx p _ hst)
  have q0 : (0 : Int) ≤ p := by omega
  have q1 : (p : Int) < 60 := by omega
  have HPL := Lib.hid hpl
  clear hr hst hpl hd hz
  refine wp_region_mix W1.heap.size 13 [([0, 1, 2, 3, 4, 5, 7, 8], 6)] [9, 10, 11, 12] (by kernel_rfl) (fun c d v a w h => by cases d <;> exact h) (by kernel_rfl) ?_
  simp only [wpMix, pk_nil, pk_cons, pushAt_zero, pushAt_succ, List.drop_succ_cons, List.drop_zero]
  repeat (go_big_quiet_step (fail))
  refine wpQuiet_nil ?_
  go_wp2_with fail
  refine HPL.out.mono ?_
  rintro e w' ⟨rfl, rfl⟩
  go_wp2_with fail
  refine thenQ_normal ⟨⟨⟨_, (Below.refl _ _).drew⟩, rfl⟩, ?_⟩
  repeat (go_big_quiet_step (fail))
  refine wpQuiet_nil ?_
  go_wp2_with fail
  go_ret2
  exact ⟨rfl, HH.out.kept rfl, hob.drew⟩

set_option maxHeartbeats 1000000 in
theorem yank_ok (h : RingAt w b ts fi n most at_) (hn : 0 < n) (k : Int) : Calls Tryz.prog 9 #[.pointer (some ⟨b, 0, none⟩), .int .i64 k] w (TurnPost w b ts fi n most (turnTo n at_ (k.tmod n - 1))) := by
  have hn60 : n ≤ 60 := Nat.le_trans h.hn h.hm1
  obtain ⟨t1, t2⟩ := tmod_bd k n hn
  have c1 := h.c61
  have hnz : ((n : Int) == 0) = false := by simp; omega
  have hc := rturn h hn (k.tmod n - 1) (by omega) (by omega)
  have HC := Lib.hid hc
  clear hc
  go_enter Tryz.func9, Tryz.ntmps9
  go_wp2_with (go_at_call 39; refine (rcheck_ok h hn).mono ?_; rintro e w' ⟨rfl, rfl⟩)
  refine HC.out.mono ?_
  rintro e w' ⟨rfl, hr, ho⟩
  go_wp2_with fail
  go_ret2
  exact ⟨rfl, hr, ho⟩
set_option maxHeartbeats 1000000 in
theorem yank_end (h : RingAt w b ts fi 0 most at_) (k : Int) : Calls Tryz.prog 9 #[.pointer (some ⟨b, 0, none⟩), .int .i64 k] w fun e w' => e = .returned (.tuple #[.string ⟨#[]⟩, .int .i64 13]) ∧ w = w' := by
  go_enter Tryz.func9, Tryz.ntmps9
  go_wp2_with (go_at_call 39; refine (rcheck_end h).mono ?_; rintro e w' ⟨rfl, rfl⟩)
  go_ret2
  exact ⟨rfl, rfl⟩

set_option maxHeartbeats 1000000 in
theorem pop_ok (h : RingAt w b ts fi n most at_) (hn : 0 < n) (k : Int) : Calls Tryz.prog 35 #[.pointer (some ⟨b, 0, none⟩), .int .i64 k] w (TurnPost w b ts fi n most (turnTo n at_ (k.tmod n))) := by
  have hn60 : n ≤ 60 := Nat.le_trans h.hn h.hm1
  obtain ⟨t1, t2⟩ := tmod_bd k n hn
  have c1 := h.c61
  have hnz : ((n : Int) == 0) = false := by simp; omega
  have hc := rturn h hn (k.tmod n) (by omega) (by omega)
  have HC := Lib.hid hc
  clear hc
  go_enter Tryz.func35, Tryz.ntmps35
  go_wp2_with (go_at_call 39; refine (rcheck_ok h hn).mono ?_; rintro e w' ⟨rfl, rfl⟩)
  refine HC.out.mono ?_
  rintro e w' ⟨rfl, hr, ho⟩
  go_wp2_with fail
  go_ret2
  exact ⟨rfl, hr, ho⟩
set_option maxHeartbeats 1000000 in
theorem pop_end (h : RingAt w b ts fi 0 most at_) (k : Int) : Calls Tryz.prog 35 #[.pointer (some ⟨b, 0, none⟩), .int .i64 k] w fun e w' => e = .returned (.tuple #[.string ⟨#[]⟩, .int .i64 13]) ∧ w = w' := by
  go_enter Tryz.func35, Tryz.ntmps35
  go_wp2_with (go_at_call 39; refine (rcheck_end h).mono ?_; rintro e w' ⟨rfl, rfl⟩)
  go_ret2
  exact ⟨rfl, rfl⟩
end
end Go.Proofs.YtnbccoelbfgmgaaGreatDoor
/- kill.New; the ring's cells. -/
namespace Go.Proofs.YtnbccoelbfgmgaaGreatDoor
open Go.RowKit
set_option linter.unusedVariables false
section
variable {w w' : World} {b : Nat} {ts : List ByteArray} {fi n most at_ : Nat}
theorem ring_new (w : World) (most : Nat) (T : TypeId) (h0 : 1 ≤ most) (h1 : most ≤ 60) : RingAt (w.alloc (.cells (List.replicate 60 (Value.string ⟨#[]⟩) ++ [Value.int .i64 0, Value.int .i64 0, Value.int .i64 most, Value.int .i64 0]).toArray T)) w.heap.size (List.replicate 60 ⟨#[]⟩) 0 0 most 0 := by
  have e := (MapKept.heap_alloc w (.cells (List.replicate 60 (Value.string ⟨#[]⟩) ++ [Value.int .i64 0, Value.int .i64 0, Value.int .i64 most, Value.int .i64 0]).toArray T)).1
  refine ⟨by simp, fun i s hs => ?_, ?_, ?_, ?_, ?_, fun i hi => ?_, by omega, by omega, h0, h1, .inr rfl, ⟨_, _, _, e, by simp⟩⟩
  · obtain ⟨hi, he⟩ := List.getElem?_eq_some_iff.1 hs
    simp only [List.length_replicate] at hi
    simp only [List.getElem_replicate] at he
    subst he
    simp only [World.cell?, e]
    rw [if_neg (by simp)]
    rw [List.getElem?_toArray, List.getElem?_append_left (by rw [List.length_replicate]; exact hi), List.getElem?_replicate, if_pos hi]
  · simp only [World.cell?, e]; rfl
  · simp only [World.cell?, e]; rfl
  · simp only [World.cell?, e]; rfl
  · simp only [World.cell?, e]; rfl
  · simp only [World.frozen?, e]
    simp only [Nat.not_lt_zero, decide_false, Bool.and_false]
set_option maxRecDepth 100000 in
set_option maxHeartbeats 1000000 in
theorem knew_ok (most : Nat) (w : World) (h0 : 1 ≤ most) (h1 : most ≤ 60) : Calls Tryz.prog 5 #[.int .i64 most] w fun e w' => e = .returned (.tuple #[.pointer (some ⟨w.heap.size, 0, none⟩), .int .i64 0]) ∧ RingAt w' w.heap.size (List.replicate 60 ⟨#[]⟩) 0 0 most 0 ∧ Below w.heap.size w w' := by
  have g1 : decide ((most : Int) < 1) = false := by simp; omega
  have g2 : decide ((60 : Int) < most) = false := by simp; omega
  go_enter Tryz.func5, Tryz.ntmps5
  go_wp2
  go_ret2
  exact ⟨rfl, ring_new w most _ h0 h1, below1 w _⟩
set_option maxHeartbeats 400000 in
theorem knew_bad (most : Int) (w : World) (h : most < 1 ∨ 60 < most) : Calls Tryz.prog 5 #[.int .i64 most] w fun e w' => e = .returned (.tuple #[.pointer none, .int .i64 2]) ∧ w = w' := by
  rcases h with h | h
  · go_enter Tryz.func5, Tryz.ntmps5
    go_wp2
    go_ret2
    exact ⟨rfl, rfl⟩
  · have h' : 1 ≤ most := by omega
    go_enter Tryz.func5, Tryz.ntmps5
    go_wp2
    go_ret2
    exact ⟨rfl, rfl⟩

/-- The place of a new string; a new string laid. -/
def kFi (fi : Nat) : Nat := (fi + 59) % 60
theorem RingAt.setFi (h : RingAt w b ts fi n most at_) (k : Nat) (hk : k < 60) : RingAt (w.setCell ⟨b, 60, none⟩ (.int .i64 k)) b ts k n most at_ := by
  have hlt : ∀ (i : Nat) (s : ByteArray), ts[i]? = some s → i < 60 := fun i s hs => by have := (List.getElem?_eq_some_iff.1 hs).1; have := h.len; omega
  refine ⟨h.len, fun i s hs => ?_, ?_, ?_, ?_, ?_, fun i hi => by rw [World.frozen?_setCell]; exact h.fz i hi, hk, h.hn, h.hm0, h.hm1, h.hat, h.blk.set _ _⟩
  · rw [World.cell?_setCell_other _ _ _ _ (by have := hlt i s hs; simp <;> omega)]; exact h.tx i s hs
  · exact World.cell?_setCell_same' _ _ _ (by rw [h.c60]; rfl)
  · rw [World.cell?_setCell_other _ _ _ _ (by simp)]; exact h.c61
  · rw [World.cell?_setCell_other _ _ _ _ (by simp)]; exact h.c62
  · rw [World.cell?_setCell_other _ _ _ _ (by simp)]; exact h.c63
theorem RingAt.setN (h : RingAt w b ts fi n most at_) (k : Nat) (hk : k ≤ most) (hat : at_ < k ∨ at_ = 0) : RingAt (w.setCell ⟨b, 61, none⟩ (.int .i64 k)) b ts fi k most at_ := by
  have hlt : ∀ (i : Nat) (s : ByteArray), ts[i]? = some s → i < 60 := fun i s hs => by have := (List.getElem?_eq_some_iff.1 hs).1; have := h.len; omega
  refine ⟨h.len, fun i s hs => ?_, ?_, ?_, ?_, ?_, fun i hi => by rw [World.frozen?_setCell]; exact h.fz i hi, h.hfi, hk, h.hm0, h.hm1, hat, h.blk.set _ _⟩
  · rw [World.cell?_setCell_other _ _ _ _ (by have := hlt i s hs; simp <;> omega)]; exact h.tx i s hs
  · rw [World.cell?_setCell_other _ _ _ _ (by simp)]; exact h.c60
  · exact World.cell?_setCell_same' _ _ _ (by rw [h.c61]; rfl)
  · rw [World.cell?_setCell_other _ _ _ _ (by simp)]; exact h.c62
  · rw [World.cell?_setCell_other _ _ _ _ (by simp)]; exact h.c63
theorem RingAt.setT (h : RingAt w b ts fi n most at_) (k : Nat) (hk : k < 60) (s : ByteArray) : RingAt (w.setCell ⟨b, k, none⟩ (.string s)) b (ts.set k s) fi n most at_ := by
  have hlen := h.len
  obtain ⟨s0, hs0⟩ : ∃ s0, ts[k]? = some s0 := ⟨_, List.getElem?_eq_getElem (by omega)⟩
  refine ⟨by rw [List.length_set]; exact hlen, fun i s' hs => ?_, ?_, ?_, ?_, ?_, fun i hi => by rw [World.frozen?_setCell]; exact h.fz i hi, h.hfi, h.hn, h.hm0, h.hm1, h.hat, h.blk.set _ _⟩
  · rw [List.getElem?_set] at hs
    split at hs
    · rename_i e
      subst e
      rw [if_pos (by omega)] at hs
      cases hs
      exact World.cell?_setCell_same' _ _ _ (by rw [h.tx _ _ hs0]; rfl)
    · rename_i e
      rw [World.cell?_setCell_other _ _ _ _ (by simp <;> omega)]; exact h.tx i s' hs
  · rw [World.cell?_setCell_other _ _ _ _ (by simp <;> omega)]; exact h.c60
  · rw [World.cell?_setCell_other _ _ _ _ (by simp <;> omega)]; exact h.c61
  · rw [World.cell?_setCell_other _ _ _ _ (by simp <;> omega)]; exact h.c62
  · rw [World.cell?_setCell_other _ _ _ _ (by simp <;> omega)]; exact h.c63
end
end Go.Proofs.YtnbccoelbfgmgaaGreatDoor
/- Package kill: a ring as a list of strings, the newest first; Kill. -/
namespace Go.Proofs.YtnbccoelbfgmgaaGreatDoor
open Go.RowKit
set_option linter.unusedVariables false
set_option linter.unusedSimpArgs false
section
variable {w w' : World} {b : Nat} {ts : List ByteArray} {fi n most at_ : Nat}
def ringL (ts : List ByteArray) (fi n : Nat) : List ByteArray := (List.range n).map (ringT ts fi)
theorem ringL_length (ts : List ByteArray) (fi n : Nat) : (ringL ts fi n).length = n := by simp [ringL]
theorem ringL_at (ts : List ByteArray) (fi n i : Nat) (h : i < n) : (ringL ts fi n)[i]? = some (ringT ts fi i) := by
  simp [ringL, h]
theorem ringT_set_same (ts : List ByteArray) (fi k : Nat) (s : ByteArray) (hl : ts.length = 60) (hk : k = fi % 60) : ringT (ts.set k s) fi 0 = s := by
  subst hk
  unfold ringT
  rw [Nat.add_zero, List.getD_eq_getElem?_getD, List.getElem?_set_self (by rw [hl]; exact Nat.mod_lt _ (by omega))]
  rfl
theorem ringT_set_ne (ts : List ByteArray) (fi k i : Nat) (s : ByteArray) (hk : k ≠ (fi + i) % 60) : ringT (ts.set k s) fi i = ringT ts fi i := by
  unfold ringT
  rw [List.getD_eq_getElem?_getD, List.getElem?_set_ne hk, List.getD_eq_getElem?_getD]
theorem ringL_kill (ts : List ByteArray) (fi n most : Nat) (s : ByteArray) (hl : ts.length = 60) (hfi : fi < 60) (hn : n ≤ most) (hm : most ≤ 60) (h1 : 1 ≤ most) :
    ringL (ts.set (kFi fi) s) (kFi fi) (min (n + 1) most) = (s :: ringL ts fi n).take most := by
  apply List.ext_getElem?
  intro i
  by_cases hi : i < min (n + 1) most
  · rw [ringL_at _ _ _ _ hi, List.getElem?_take_of_lt (by omega)]
    rcases i with _ | i
    · rw [ringT_set_same _ _ _ _ hl (by unfold kFi; omega)]; rfl
    · rw [List.getElem?_cons_succ, ringL_at _ _ _ _ (by omega), ringT_set_ne _ _ _ _ _ (by unfold kFi; omega)]
      unfold ringT kFi
      congr 2; omega
  · rw [List.getElem?_eq_none (by rw [ringL_length]; omega), List.getElem?_eq_none (by simp [ringL_length]; omega)]
/-- The ring at block b holds the strings L, the newest first; it has room for most; the string at hand is number at_. -/
def Ring (w : World) (b : Nat) (L : List ByteArray) (most at_ : Nat) : Prop := ∃ ts fi, RingAt w b ts fi L.length most at_ ∧ L = ringL ts fi L.length
variable {L : List ByteArray}
theorem Ring.lt (h : Ring w b L most at_) : b < w.heap.size := by obtain ⟨ts, fi, h, _⟩ := h; exact h.lt
theorem Ring.up (h : Ring w b L most at_) (hb : Below w.heap.size w w') : Ring w' b L most at_ := by obtain ⟨ts, fi, h, e⟩ := h; exact ⟨ts, fi, h.up hb, e⟩
theorem Ring.kept (h : Ring w b L most at_) (hb : w'.heap[b]? = w.heap[b]?) : Ring w' b L most at_ := by obtain ⟨ts, fi, h, e⟩ := h; exact ⟨ts, fi, h.kept hb, e⟩
theorem Ring.len (h : Ring w b L most at_) : L.length ≤ most ∧ 1 ≤ most ∧ most ≤ 60 ∧ (at_ < L.length ∨ at_ = 0) := by obtain ⟨ts, fi, h, e⟩ := h; exact ⟨h.hn, h.hm0, h.hm1, h.hat⟩
theorem ringT_L {i : Nat} (e : L = ringL ts fi L.length) (hi : i < L.length) : ringT ts fi i = L.getD i ByteArray.empty := by
  have h := ringL_at ts fi L.length i hi
  rw [← e] at h
  rw [List.getD_eq_getElem?_getD, h]; rfl

theorem Only.setB {a c : World} {b : Nat} (h : Only (· = b) a c) (o : Nat) (u : Value) : Only (· = b) a (c.setCell ⟨b, o, none⟩ u) := h.setCell (p := ⟨b, o, none⟩) (show (⟨b, o, none⟩ : Addr).block = b from rfl) u
/-- Handed back by Yank and Pop. -/
def TakePost (w : World) (b : Nat) (L : List ByteArray) (most k : Nat) (e : Ending) (w' : World) : Prop :=
  e = .returned (.tuple #[.string (L.getD k ByteArray.empty), .int .i64 0]) ∧ Ring w' b L most k ∧ Only (· = b) w w'
theorem Ring.yank (h : Ring w b L most at_) (hn : 0 < L.length) (k : Int) : Calls Tryz.prog 9 #[.pointer (some ⟨b, 0, none⟩), .int .i64 k] w (TakePost w b L most (turnTo L.length at_ (k.tmod L.length - 1))) := by
  obtain ⟨ts, fi, h, e⟩ := h
  have hk := turnTo_lt L.length at_ (k.tmod L.length - 1) hn
  refine (yank_ok h hn k).mono ?_
  rintro e' w' ⟨rfl, hr, ho⟩
  exact ⟨by rw [ringT_L e hk], ⟨ts, fi, hr, e⟩, ho⟩
theorem Ring.pop (h : Ring w b L most at_) (hn : 0 < L.length) (k : Int) : Calls Tryz.prog 35 #[.pointer (some ⟨b, 0, none⟩), .int .i64 k] w (TakePost w b L most (turnTo L.length at_ (k.tmod L.length))) := by
  obtain ⟨ts, fi, h, e⟩ := h
  have hk := turnTo_lt L.length at_ (k.tmod L.length) hn
  refine (pop_ok h hn k).mono ?_
  rintro e' w' ⟨rfl, hr, ho⟩
  exact ⟨by rw [ringT_L e hk], ⟨ts, fi, hr, e⟩, ho⟩
def NonePost (w : World) (e : Ending) (w' : World) : Prop := e = .returned (.tuple #[.string ⟨#[]⟩, .int .i64 13]) ∧ w = w'
theorem Ring.yank0 (h : Ring w b [] most at_) (k : Int) : Calls Tryz.prog 9 #[.pointer (some ⟨b, 0, none⟩), .int .i64 k] w (NonePost w) := by
  obtain ⟨ts, fi, h, e⟩ := h
  exact yank_end h k
theorem Ring.pop0 (h : Ring w b [] most at_) (k : Int) : Calls Tryz.prog 35 #[.pointer (some ⟨b, 0, none⟩), .int .i64 k] w (NonePost w) := by
  obtain ⟨ts, fi, h, e⟩ := h
  exact pop_end h k
def RingPost (w : World) (b : Nat) (L : List ByteArray) (most at_ err : Nat) (e : Ending) (w' : World) : Prop := e = .returned (.int .i64 err) ∧ Ring w' b L most at_ ∧ Only (· = b) w w'

set_option maxHeartbeats 1000000 in
theorem Ring.kill_bad {N : Nat} (h : Ring w b L most at_) (s : ByteArray) (hs : s.size ≤ 1000000000) (hT : Tabs N w) (hv : vld s = false) : Calls Tryz.prog 10 #[.pointer (some ⟨b, 0, none⟩), .string s] w (RingPost w b L most at_ 5) := by
  obtain ⟨ts, fi, h, e⟩ := h
  have hV := valid_any s w hs hT
  rw [hv] at hV
  have HV := Lib.hid hV
  have HE := Lib.hid e
  clear hV hv e
  go_enter Tryz.func10, Tryz.ntmps10
  go_wp2_with fail
  refine (rnone_no h).mono ?_
  rintro e w' ⟨rfl, rfl⟩
  go_wp2_with fail
  refine HV.out.mono ?_
  rintro e w' ⟨rfl, hb⟩
  go_wp2_with fail
  go_ret
  exact ⟨rfl, ⟨ts, fi, h.up hb, HE.out⟩, .of_below hb⟩
set_option maxRecDepth 100000 in
set_option maxHeartbeats 1000000 in
theorem Ring.kill_ok {N : Nat} (h : Ring w b L most at_) (s : ByteArray) (hs : s.size ≤ 1000000000) (hT : Tabs N w) (hv : vld s = true) : Calls Tryz.prog 10 #[.pointer (some ⟨b, 0, none⟩), .string s] w (RingPost w b ((s :: L).take most) most 0 0) := by
  obtain ⟨ts, fi, h, e⟩ := h
  have hV := valid_any s w hs hT
  rw [hv] at hV
  have HV := Lib.hid hV
  have HE := Lib.hid e
  clear hV hv e
  go_enter Tryz.func10, Tryz.ntmps10
  go_wp2_with fail
  refine (rnone_no h).mono ?_
  rintro e w' ⟨rfl, rfl⟩
  go_wp2_with fail
  refine HV.out.mono ?_
  rintro e w1 ⟨rfl, hb⟩
  have h1 := h.up hb
  go_wp2_with fail
  refine (rplace h1 59 (by omega)).mono ?_
  rintro e w' ⟨rfl, rfl⟩
  have HTS := Lib.hid h1.len
  have HFI := Lib.hid h1.hfi
  have hkl : kFi fi < 60 := Nat.mod_lt _ (by omega)
  rw [show (fi + 59) % 60 = kFi fi from rfl]
  have H2 := Lib.hid (h1.setFi (kFi fi) hkl)
  have c60 := h1.c60
  have z60 := h1.fz 60 (by omega)
  have ho1 : Only (· = b) w (w1.setCell ⟨b, 60, none⟩ (.int .i64 (kFi fi))) := (Only.of_below hb).setB _ _
  generalize hk : kFi fi = k at *
  have HK := Lib.hid hk
  clear hk
  go_wp2_with fail
  generalize w1.setCell ⟨b, 60, none⟩ (.int .i64 k) = W1 at *
  clear h1 c60 z60 h
  have hr := H2.out
  have C60 : ∀ x : UpW W1.heap.size W1, x.w.cell? ⟨b, 60, none⟩ = some (.int .i64 k) := fun x => (x.up.cell (p := ⟨b, 60, none⟩) hr.lt).trans hr.c60
  have q0 : (0 : Int) ≤ k := by omega
  have q1 : (k : Int) < 60 := by omega
  obtain ⟨s0, hs0⟩ : ∃ s0, ts[k]? = some s0 := ⟨_, List.getElem?_eq_getElem (by rw [hr.len]; exact hkl)⟩
  have cK := hr.tx k s0 hs0
  have zK := hr.fz k (by omega)
  clear hr hs0
  refine wp_region_mix W1.heap.size 9 [] [0, 1, 2, 3, 4, 5, 6, 7, 8] (by kernel_rfl) (fun c d v a w h => by cases d <;> exact h) (by kernel_rfl) ?_
  simp only [wpMix, pk_nil, pk_cons, pushAt_zero, pushAt_succ, List.drop_succ_cons, List.drop_zero]
  repeat (go_big_quiet_step (fail))
  refine wpQuiet_nil ?_
  go_wp2_with fail
  have H3 : RingAt (W1.setCell ⟨b, k, none⟩ (.string s)).drew b (ts.set k s) k L.length most at_ := ((H2.out.setT k hkl s).kept rfl)
  have ho2 : Only (· = b) w (W1.setCell ⟨b, k, none⟩ (.string s)).drew := (ho1.setB _ _).drew
  generalize (W1.setCell ⟨b, k, none⟩ (.string s)).drew = W2 at *
  clear C60 cK zK ho1 H2
  have H3' := Lib.hid H3
  have C61 : ∀ x : UpW W2.heap.size W2, x.w.cell? ⟨b, 61, none⟩ = some (.int .i64 L.length) := fun x => (x.up.cell (p := ⟨b, 61, none⟩) H3.lt).trans H3.c61
  have C62 : ∀ x : UpW W2.heap.size W2, x.w.cell? ⟨b, 62, none⟩ = some (.int .i64 most) := fun x => (x.up.cell (p := ⟨b, 62, none⟩) H3.lt).trans H3.c62
  have w1 : IntKind.i64.wrap ((L.length : Int) + 1) = (L.length : Int) + 1 := IntWalk.i64_in _ (by have := H3.hn; have := H3.hm1; omega)
  have c61 := H3.c61
  have z61 := H3.fz 61 (by omega)
  have c62 := H3.c62
  have c63 := H3.c63
  have z63 := H3.fz 63 (by omega)
  have hn := H3.hn
  have hm0 := H3.hm0
  have hm1 := H3.hm1
  clear H3
  clear C61 C62
  go_region
  go_wp2_with fail
  go_ret
  have e1 : min ((L.length : Int) + 1) most = (min (L.length + 1) most : Nat) := by omega
  have hlen : ((s :: L).take most).length = min (L.length + 1) most := by simp; omega
  have hat := H3'.out.hat
  rw [e1]
  refine ⟨rfl, ⟨_, _, by rw [hlen]; exact (((H3'.out.setN (min (L.length + 1) most) (by omega) (by omega)).setAt 0 (.inr rfl)).kept rfl), ?_⟩, ((ho2.setB _ _).setB _ _).drew⟩
  have hr := ringL_kill ts fi L.length most s HTS.out HFI.out hn hm1 hm0
  rw [HK.out] at hr
  rw [hlen, hr, ← HE.out]
end
end Go.Proofs.YtnbccoelbfgmgaaGreatDoor
/- copyistlaw25.lives. -/
namespace Go.Proofs.YtnbccoelbfgmgaaGreatDoor
open Go.RowKit
set_option linter.unusedVariables false
theorem vldA : vld ⟨#[97]⟩ = true := by kernel_rfl
theorem vldB : vld ⟨#[98]⟩ = true := by kernel_rfl
section
variable {w : World} {N : Nat}
set_option maxRecDepth 100000 in
set_option maxHeartbeats 1000000 in
theorem lives_true (hT : Tabs N w) (hN : N ≤ w.heap.size) : Calls Tryz.prog 7 #[] w fun e w' => e = .returned (.bool true) ∧ Below w.heap.size w w' := by
  go_enter Tryz.func7, Tryz.ntmps7
  go_wp2_with fail
  refine (knew_ok 3 w (by omega) (by omega)).mono ?_
  rintro e w1 ⟨rfl, hr, hb⟩
  have h1 : Ring w1 w.heap.size [] 3 0 := ⟨_, _, hr, rfl⟩
  have hT1 := hT.up hb
  clear hr
  go_wp2_with fail
  refine (h1.kill_ok ⟨#[97]⟩ (by decide) hT1 vldA).mono ?_
  rintro e w2 ⟨rfl, h2, ho2⟩
  have hT2 := hT1.only ho2 (fun k hk => by subst hk; exact hN)
  go_wp2_with fail
  refine (h2.kill_ok ⟨#[98]⟩ (by decide) hT2 vldB).mono ?_
  rintro e w3 ⟨rfl, h3, ho3⟩
  have hT3 := hT2.only ho3 (fun k hk => by subst hk; exact hN)
  have g3 : Ring w3 w.heap.size [⟨#[98]⟩, ⟨#[97]⟩] 3 0 := h3
  have cy := g3.yank (by decide) 1
  rw [show turnTo [(⟨#[98]⟩ : ByteArray), ⟨#[97]⟩].length 0 ((1 : Int).tmod ([(⟨#[98]⟩ : ByteArray), ⟨#[97]⟩].length : Nat) - 1) = 0 from by decide] at cy
  have CY := Lib.hid cy
  clear cy h1 h2 h3 hT1 hT2 hT3 hT
  go_wp2_with fail
  refine CY.out.mono ?_
  rintro e w4 ⟨rfl, h4, ho4⟩
  have cp := h4.pop (by decide) 1
  rw [show turnTo [(⟨#[98]⟩ : ByteArray), ⟨#[97]⟩].length 0 ((1 : Int).tmod ([(⟨#[98]⟩ : ByteArray), ⟨#[97]⟩].length : Nat)) = 1 from by decide] at cp
  have CP := Lib.hid cp
  clear cp
  go_wp2_with fail
  refine CP.out.mono ?_
  rintro e w5 ⟨rfl, h5, ho5⟩
  have cq := h5.pop (by decide) 1
  rw [show turnTo [(⟨#[98]⟩ : ByteArray), ⟨#[97]⟩].length 1 ((1 : Int).tmod ([(⟨#[98]⟩ : ByteArray), ⟨#[97]⟩].length : Nat)) = 0 from by decide] at cq
  have CQ := Lib.hid cq
  clear cq
  go_wp2_with fail
  refine CQ.out.mono ?_
  rintro e w6 ⟨rfl, h6, ho6⟩
  have HO := Lib.hid (((((Only.of_below hb).then ho2 (fun i hi _ => hi)).trans ho3).trans ho4).trans ho5 |>.trans ho6)
  clear ho2 ho3 ho4 ho5 ho6 h4 h5 h6 g3
  go_wp2_with fail
  go_outline
  go_ret
  exact ⟨rfl, HO.out.below (Nat.le_refl _) (fun k hk => by subst hk; exact Nat.le_refl _)⟩
end
end Go.Proofs.YtnbccoelbfgmgaaGreatDoor
