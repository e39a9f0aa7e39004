import Derived.Test.YtklaeecegkpgmaaGreatDoorFsP
import Derived.Test.YtklaeecegkpgmaaGreatDoorJa
/- copyistlaw24: of. -/
namespace Go.Proofs.YtklaeecegkpgmaaGreatDoor
open Go.RowKit
set_option linter.unusedVariables false
set_option linter.unusedSimpArgs false
section
variable {w w' : World}
theorem Tabs.low {N M : Nat} (h : Tabs N w) (hM : N ≤ M) : Tabs M w := ⟨h.1, Nat.lt_of_lt_of_le h.2.1 hM, Nat.lt_of_lt_of_le h.2.2 hM⟩
theorem Rules.low {N M : Nat} (h : Rules N w) (hM : N ≤ M) : Rules M w := ⟨Nat.lt_of_lt_of_le h.1 hM, h.2⟩
theorem aft_eq {t m p o l : Nat} {lock : Int} {n : Nat} {em : Bool} : (aftS t m p o l lock n em).t = t ∧ (aftS t m p o l lock n em).l = l ∧ (aftS t m p o l lock n em).logs = true ∧ (aftS t m p o l lock n em).lo = 1 ∧ (aftS t m p o l lock n em).hi = 1 + n ∧ (aftS t m p o l lock n em).pt = 1 + n ∧ (aftS t m p o l lock n em).saved = .slice none 0 0 := by
  unfold aftS
  split
  · rename_i h; subst h; exact ⟨rfl, rfl, rfl, rfl, rfl, rfl, rfl⟩
  · exact ⟨rfl, rfl, rfl, rfl, rfl, rfl, rfl⟩
theorem BufT.only {b g : Nat} {S : BS} {cs : List Nat} {P : Nat → Prop} (h : BufT w b g S cs) (ho : Only P w w') (n1 : ¬ P b) (n2 : ¬ P S.t) (n3 : ¬ P g) : BufT w' b g S cs :=
  ⟨h.blk.only ho n1, h.gap.kept (ho.block _ (by obtain ⟨_, _, _, _, q⟩ := h.gap; exact q.lt) n2) (ho.block _ (by obtain ⟨_, _, _, _, q⟩ := h.gap; exact q.hg) n3) ho.size, h.hbt, h.hbg, h.h1, h.h2, h.h3, h.h4⟩
theorem below_of {N : Nat} {S : Nat → Prop} {w0 w w' : World} (hb : Below w0.heap.size w0 w) (ho : Only S w w') (hs : ∀ k, S k → w0.heap.size ≤ k) : Below w0.heap.size w0 w' := hb.trans (ho.below hb.size hs)
set_option maxRecDepth 100000 in
set_option maxHeartbeats 2000000 in
theorem of_ok {N : Nat} (hT : Tabs N w) (hR : Rules N w) (hN : N ≤ w.heap.size) (s : ByteArray) (hs : s.size ≤ 10000) (hv : (charsD s.data.toList).isSome = true) :
    Calls Tryz.prog 16 #[.string s] w fun r w' => ∃ b g S, r = .returned (.tuple #[pAt b, .bool true]) ∧ Below w.heap.size w w' ∧ BufT w' b g S (chrs s) ∧ S.lo = 1 ∧ S.hi = 1 + (chrs s).length ∧ S.pt = 1 + (chrs s).length ∧ w.heap.size ≤ b ∧ w.heap.size ≤ g ∧ w.heap.size ≤ S.t := by
  have HT := Lib.hid hT
  have HR := Lib.hid hR
  have HV := Lib.hid hv
  clear hT hR hv
  go_enter Tryz.func16, Tryz.ntmps16
  go_wp2_with fail
  refine (bufNew HT.out hN 1 2 3).mono ?_
  rintro e w1 ⟨b, t, g, l, mm, m, p, o, rfl, hb1, hf⟩
  have hord := hf.ord
  have F1 := Lib.hid hf
  have B1 := Lib.hid hb1
  clear hf hb1
  go_wp2_with fail
  refine (Insert_ok ((HT.out.up B1.out).low hN) ((HR.out.up B1.out).low hN) F1.out s hs HV.out).mono ?_
  rintro e w2 ⟨rfl, ho2, hk2, hg2, hl2⟩
  have B2 := Lib.hid (below_of (N := 0) B1.out ho2 (fun k hk => by omega))
  have K2 := Lib.hid hk2
  have G2 := Lib.hid hg2
  have L2 := Lib.hid hl2
  obtain ⟨a1, a2, a3, a4, a5, a6, a7⟩ := @aft_eq t m p o l 3 (chrs s).length (decide ((chrs s).length = 0))
  have HB := Lib.hid (bBoundary_ok hk2 a3 (a2.symm ▸ hl2) (by rw [a2]; omega))
  have HA := Lib.hid (⟨a1, a2, a4, a5, a6⟩ : _ ∧ _ ∧ _ ∧ _ ∧ _)
  clear ho2 hk2 hg2 hl2 F1 B1 a1 a2 a3 a4 a5 a6 a7
  go_wp2_with fail
  refine HB.out.mono ?_
  rintro e w3 ⟨rfl, ho3, hk3⟩
  obtain ⟨a1, a2, a4, a5, a6⟩ := HA.out
  rw [a2] at ho3
  have B3 := Lib.hid (below_of (N := 0) B2.out ho3 (fun k hk => by omega))
  obtain ⟨g', hg1, hg2, hg3, hgap⟩ := G2.out
  obtain ⟨Bq, capq, stq, enq, hq⟩ := id hgap
  have G3 := Lib.hid (hgap.kept (ho3.block t hq.lt (by show ¬ (t = b ∨ t = l); omega)) (ho3.block g' hq.hg (by show ¬ (g' = b ∨ g' = l); omega)) ho3.size)
  have K3 := Lib.hid hk3
  clear hk3 ho3 hgap hq HB
  go_wp2_with fail
  go_ret2
  refine ⟨b, g', _, rfl, B3.out, ⟨K3.out, ?_, ?_, hg2.symm, ?_, ?_, ?_, ?_⟩, a4, a5, a6, by omega, by omega, ?_⟩
  · show GapR w3 (aftS t m p o l 3 (chrs s).length (decide ((chrs s).length = 0))).t g' (chrs s)
    rw [a1]; exact G3.out
  · show b ≠ (aftS t m p o l 3 (chrs s).length (decide ((chrs s).length = 0))).t
    rw [a1]; omega
  · show 1 ≤ (aftS t m p o l 3 (chrs s).length (decide ((chrs s).length = 0))).lo
    rw [a4]; omega
  · show (aftS t m p o l 3 (chrs s).length (decide ((chrs s).length = 0))).lo ≤ (aftS t m p o l 3 (chrs s).length (decide ((chrs s).length = 0))).pt
    rw [a4, a6]; omega
  · show (aftS t m p o l 3 (chrs s).length (decide ((chrs s).length = 0))).pt ≤ (aftS t m p o l 3 (chrs s).length (decide ((chrs s).length = 0))).hi
    rw [a5, a6]; omega
  · show (aftS t m p o l 3 (chrs s).length (decide ((chrs s).length = 0))).hi ≤ (chrs s).length + 1
    rw [a5]; omega
  · show w.heap.size ≤ (aftS t m p o l 3 (chrs s).length (decide ((chrs s).length = 0))).t
    rw [a1]; omega
end
end Go.Proofs.YtklaeecegkpgmaaGreatDoor
