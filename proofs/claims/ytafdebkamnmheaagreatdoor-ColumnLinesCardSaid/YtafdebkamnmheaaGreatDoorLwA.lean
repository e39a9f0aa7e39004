import Derived.Test.YtafdebkamnmheaaGreatDoorRfI
import Derived.Test.YtafdebkamnmheaaGreatDoorFsP
import Derived.Test.YtafdebkamnmheaaGreatDoorJa
/- copyistlaw24: of, pair, light. -/
namespace Go.Proofs.YtafdebkamnmheaaGreatDoor
open Go.RowKit
set_option linter.unusedVariables false
set_option linter.unusedSimpArgs false
section
variable {w w' : World}
theorem Tabs.low {N M : Nat} (h : Tabs N w) (hM : N ≤ M) : Tabs M w := ⟨h.1, Nat.lt_of_lt_of_le h.2.1 hM, Nat.lt_of_lt_of_le h.2.2 hM⟩
theorem Rules.low {N M : Nat} (h : Rules N w) (hM : N ≤ M) : Rules M w := ⟨Nat.lt_of_lt_of_le h.1 hM, h.2⟩
theorem aft_eq {t m p o l : Nat} {lock : Int} {n : Nat} {em : Bool} : (aftS t m p o l lock n em).t = t ∧ (aftS t m p o l lock n em).l = l ∧ (aftS t m p o l lock n em).logs = true ∧ (aftS t m p o l lock n em).lo = 1 ∧ (aftS t m p o l lock n em).hi = 1 + n ∧ (aftS t m p o l lock n em).pt = 1 + n ∧ (aftS t m p o l lock n em).saved = .slice none 0 0 := by
  unfold aftS
  split
  · rename_i h; subst h; exact ⟨rfl, rfl, rfl, rfl, rfl, rfl, rfl⟩
  · exact ⟨rfl, rfl, rfl, rfl, rfl, rfl, rfl⟩
theorem BufT.only {b g : Nat} {S : BS} {cs : List Nat} {P : Nat → Prop} (h : BufT w b g S cs) (ho : Only P w w') (n1 : ¬ P b) (n2 : ¬ P S.t) (n3 : ¬ P g) : BufT w' b g S cs :=
  ⟨h.blk.only ho n1, h.gap.kept (ho.block _ (by obtain ⟨_, _, _, _, q⟩ := h.gap; exact q.lt) n2) (ho.block _ (by obtain ⟨_, _, _, _, q⟩ := h.gap; exact q.hg) n3) ho.size, h.hbt, h.hbg, h.h1, h.h2, h.h3, h.h4⟩
theorem below_of {N : Nat} {S : Nat → Prop} {w0 w w' : World} (hb : Below w0.heap.size w0 w) (ho : Only S w w') (hs : ∀ k, S k → w0.heap.size ≤ k) : Below w0.heap.size w0 w' := hb.trans (ho.below hb.size hs)
set_option maxRecDepth 100000 in
set_option maxHeartbeats 2000000 in
theorem of_ok {N : Nat} (hT : Tabs N w) (hR : Rules N w) (hN : N ≤ w.heap.size) (s : ByteArray) (hs : s.size ≤ 10000) (hv : (charsD s.data.toList).isSome = true) :
    Calls Tryz.prog 16 #[.string s] w fun r w' => ∃ b g S, r = .returned (.tuple #[pAt b, .bool true]) ∧ Below w.heap.size w w' ∧ BufT w' b g S (chrs s) ∧ S.lo = 1 ∧ S.hi = 1 + (chrs s).length ∧ S.pt = 1 + (chrs s).length ∧ w.heap.size ≤ b ∧ w.heap.size ≤ g ∧ w.heap.size ≤ S.t := by
  have HT := Lib.hid hT
  have HR := Lib.hid hR
  have HV := Lib.hid hv
  clear hT hR hv
  go_enter Tryz.func16, Tryz.ntmps16
  go_wp2_with fail
  refine (bufNew HT.out hN 1 2 3).mono ?_
  rintro e w1 ⟨b, t, g, l, mm, m, p, o, rfl, hb1, hf⟩
  have hord := hf.ord
  have F1 := Lib.hid hf
  have B1 := Lib.hid hb1
  clear hf hb1
  go_wp2_with fail
  refine (Insert_ok ((HT.out.up B1.out).low hN) ((HR.out.up B1.out).low hN) F1.out s hs HV.out).mono ?_
  rintro e w2 ⟨rfl, ho2, hk2, hg2, hl2⟩
  have B2 := Lib.hid (below_of (N := 0) B1.out ho2 (fun k hk => by omega))
  have K2 := Lib.hid hk2
  have G2 := Lib.hid hg2
  have L2 := Lib.hid hl2
  obtain ⟨a1, a2, a3, a4, a5, a6, a7⟩ := @aft_eq t m p o l 3 (chrs s).length (decide ((chrs s).length = 0))
  have HB := Lib.hid (bBoundary_ok hk2 a3 (a2.symm ▸ hl2) (by rw [a2]; omega))
  have HA := Lib.hid (⟨a1, a2, a4, a5, a6⟩ : _ ∧ _ ∧ _ ∧ _ ∧ _)
  clear ho2 hk2 hg2 hl2 F1 B1 a1 a2 a3 a4 a5 a6 a7
  go_wp2_with fail
  refine HB.out.mono ?_
  rintro e w3 ⟨rfl, ho3, hk3⟩
  obtain ⟨a1, a2, a4, a5, a6⟩ := HA.out
  rw [a2] at ho3
  have B3 := Lib.hid (below_of (N := 0) B2.out ho3 (fun k hk => by omega))
  obtain ⟨g', hg1, hg2, hg3, hgap⟩ := G2.out
  obtain ⟨Bq, capq, stq, enq, hq⟩ := id hgap
  have G3 := Lib.hid (hgap.kept (ho3.block t hq.lt (by show ¬ (t = b ∨ t = l); omega)) (ho3.block g' hq.hg (by show ¬ (g' = b ∨ g' = l); omega)) ho3.size)
  have K3 := Lib.hid hk3
  clear hk3 ho3 hgap hq HB
  go_wp2_with fail
  go_ret2
  refine ⟨b, g', _, rfl, B3.out, ⟨K3.out, ?_, ?_, hg2.symm, ?_, ?_, ?_, ?_⟩, a4, a5, a6, by omega, by omega, ?_⟩
  · show GapR w3 (aftS t m p o l 3 (chrs s).length (decide ((chrs s).length = 0))).t g' (chrs s)
    rw [a1]; exact G3.out
  · show b ≠ (aftS t m p o l 3 (chrs s).length (decide ((chrs s).length = 0))).t
    rw [a1]; omega
  · show 1 ≤ (aftS t m p o l 3 (chrs s).length (decide ((chrs s).length = 0))).lo
    rw [a4]; omega
  · show (aftS t m p o l 3 (chrs s).length (decide ((chrs s).length = 0))).lo ≤ (aftS t m p o l 3 (chrs s).length (decide ((chrs s).length = 0))).pt
    rw [a4, a6]; omega
  · show (aftS t m p o l 3 (chrs s).length (decide ((chrs s).length = 0))).pt ≤ (aftS t m p o l 3 (chrs s).length (decide ((chrs s).length = 0))).hi
    rw [a5, a6]; omega
  · show (aftS t m p o l 3 (chrs s).length (decide ((chrs s).length = 0))).hi ≤ (chrs s).length + 1
    rw [a5]; omega
  · show w.heap.size ≤ (aftS t m p o l 3 (chrs s).length (decide ((chrs s).length = 0))).t
    rw [a1]; omega
set_option maxRecDepth 100000 in
set_option maxHeartbeats 2000000 in
theorem pair_ok {N : Nat} (hT : Tabs N w) (hR : Rules N w) (hN : N ≤ w.heap.size) (s : ByteArray) (hs : s.size ≤ 10000) (hv : (charsD s.data.toList).isSome = true) (a z : Int) :
    Calls Tryz.prog 7 #[.string s, .int .i64 a, .int .i64 z] w fun r w' => ∃ b rb g S, r = .returned (.tuple #[pAt b, pAt rb, .bool true]) ∧ Below w.heap.size w w' ∧ BufT w' b g S (chrs s) := by
  have hlen := chrs_len s
  have HO := Lib.hid (of_ok hT hR hN s hs hv)
  have HV := Lib.hid hv
  clear hT hR hv
  go_enter Tryz.func7, Tryz.ntmps7
  go_wp2_with fail
  refine HO.out.mono ?_
  rintro e w1 ⟨b, g, S, rfl, hb1, hT1, _, _, _, hz1, hz2, hz3⟩
  have B1 := Lib.hid hb1
  have T1 := Lib.hid hT1
  clear hb1 hT1 HO
  go_wp2_with fail
  refine (refNew w1 1 2 3).mono ?_
  rintro e w2 ⟨rb, rt, rm, rp, ro, rl, rfl, hb2, hf2⟩
  have hord := hf2.ord
  have B2 := Lib.hid (up2 B1.out hb2)
  have T2 := Lib.hid (T1.out.up hb2)
  have F2 := Lib.hid hf2
  have q1 := T1.out.blk.lt
  have q2 : S.t < w1.heap.size := by obtain ⟨_, _, _, _, q⟩ := T1.out.gap; exact q.lt
  have q3 : g < w1.heap.size := by obtain ⟨_, _, _, _, q⟩ := T1.out.gap; exact q.hg
  have q4 := B1.out.size
  clear hb2 hf2 B1 T1
  go_wp2_with fail
  refine (rInsert F2.out s hs HV.out).mono ?_
  rintro e w3 ⟨rfl, ho3, ha3⟩
  have B3 := Lib.hid (below_of (N := 0) B2.out ho3 (fun k hk => by omega))
  have T3 := Lib.hid (T2.out.only ho3 (by show ¬ (w1.heap.size ≤ b); omega) (by show ¬ (w1.heap.size ≤ S.t); omega) (by show ¬ (w1.heap.size ≤ g); omega))
  have A3 := Lib.hid ha3
  clear ho3 ha3 T2 B2
  go_wp2_with fail
  refine (rBoundary A3.out).mono ?_
  rintro e w4 ⟨rfl, ho4⟩
  have B4 := Lib.hid (below_of (N := 0) B3.out ho4 (fun k hk => by omega))
  have T4 := Lib.hid (T3.out.only ho4 (by show ¬ (b = rl); omega) (by show ¬ (S.t = rl); omega) (by show ¬ (g = rl); omega))
  obtain ⟨⟨m', p', o', lo', hi', mk', tick', lock', hk3⟩, ⟨A', cap', ht3⟩, hl3, hz3'⟩ := A3.out
  have RK := Lib.hid (hk3.only ho4 (by show ¬ (rb = rl); omega))
  have RT := Lib.hid (ht3.only ho4 (by show ¬ (rt = rl); omega))
  clear ho4 T3 B3 A3 hk3 ht3 hl3
  go_wp2_with fail
  refine (bSize_ok T4.out).mono ?_
  rintro e w5 ⟨rfl, hb5⟩
  have B5 := Lib.hid (up2 B4.out hb5)
  have T5 := Lib.hid (T4.out.up hb5)
  have RK5 := Lib.hid (RK.out.up hb5)
  have RT5 := Lib.hid (RT.out.up hb5)
  clear hb5 B4 T4 RK RT
  obtain ⟨n, hn⟩ : ∃ n, n = (chrs s).length := ⟨_, rfl⟩
  rw [← hn] at hlen RT5 ⊢
  have HN := Lib.hid hn
  clear hn
  have s1 : IntKind.i64.wrap ((n : Int) + 1) = (n : Int) + 1 := IntWalk.i64_in _ (by omega)
  have s2 : IntKind.i64.wrap ((n : Int) + 2) = (n : Int) + 2 := IntWalk.i64_in _ (by omega)
  go_wp2_with fail
  refine (pick_any a ((n : Int) + 1) w5 (by omega) (by omega)).mono ?_
  rintro e w6 ⟨rfl, rfl⟩
  have hp := pick_pos a ((n : Int) + 1) (by omega)
  obtain ⟨x, hx⟩ : ∃ x : Nat, 1 + pickI a ((n : Int) + 1) = (x : Int) := ⟨(1 + pickI a ((n : Int) + 1)).toNat, by omega⟩
  have s3 : IntKind.i64.wrap (1 + pickI a ((n : Int) + 1)) = (x : Int) := by rw [IntWalk.i64_in _ (by omega), hx]
  have hx1 : 1 ≤ x := by omega
  have hx2 : x ≤ n + 1 := by omega
  clear hx hp
  have s4 : IntKind.i64.wrap ((n : Int) + 2 - (x : Int)) = (n : Int) + 2 - (x : Int) := IntWalk.i64_in _ (by omega)
  go_wp2_with fail
  refine (pick_any z ((n : Int) + 2 - (x : Int)) w5 (by omega) (by omega)).mono ?_
  rintro e w6 ⟨rfl, rfl⟩
  have hp := pick_pos z ((n : Int) + 2 - (x : Int)) (by omega)
  obtain ⟨y, hy⟩ : ∃ y : Nat, (x : Int) + pickI z ((n : Int) + 2 - (x : Int)) = (y : Int) := ⟨((x : Int) + pickI z ((n : Int) + 2 - (x : Int))).toNat, by omega⟩
  have s5 : IntKind.i64.wrap ((x : Int) + pickI z ((n : Int) + 2 - (x : Int))) = (y : Int) := by rw [IntWalk.i64_in _ (by omega), hy]
  have hy1 : x ≤ y := by omega
  have hy2 : y ≤ n + 1 := by omega
  clear hy hp
  go_wp2_with fail
  refine (Narrow_ok T5.out x y hx1 hy1 (by rw [← HN.out]; exact hy2)).mono ?_
  rintro e w7 ⟨rfl, ho7, hT7⟩
  have B7 := Lib.hid (below_of (N := 0) B5.out ho7 (fun k hk => by omega))
  have T7 := Lib.hid hT7
  have RK7 := RK5.out.only ho7 (by show ¬ (rb = b); omega)
  have RT7 := RT5.out.only ho7 (by show ¬ (rt = b); omega)
  have HRN := Lib.hid (rNarrow RK7 RT7 x y hx1 hy1 hy2 (by omega))
  clear ho7 hT7 RK7 RT7 T5 RK5 RT5 B5
  go_wp2_with fail
  refine HRN.out.mono ?_
  rintro e w8 ⟨rfl, ho8⟩
  go_wp2_with fail
  go_ret3
  exact ⟨b, rb, g, _, rfl, below_of (N := 0) B7.out ho8 (fun k hk => by omega), T7.out.only ho8 (by show ¬ (b = rb); omega) (by show ¬ (S.t = rb); omega) (by show ¬ (g = rb); omega)⟩
end
end Go.Proofs.YtafdebkamnmheaaGreatDoor
