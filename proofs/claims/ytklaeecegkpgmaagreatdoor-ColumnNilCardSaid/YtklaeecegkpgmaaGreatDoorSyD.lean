import Derived.Test.YtklaeecegkpgmaaGreatDoorJc
import Derived.Laws.Cover4
import Derived.Laws.Concat
/- package gap: span, Slice. -/
namespace Go.Proofs.YtklaeecegkpgmaaGreatDoor
open Go.RowKit
set_option linter.unusedVariables false
set_option linter.unusedSimpArgs false
def subL (cs : List Nat) (x y : Nat) : List Nat := (cs.drop (x - 1)).take (y - x)
section
variable {w w' : World} {t g : Nat} {cs : List Nat}
set_option maxHeartbeats 1000000 in
theorem gspan_ok (h : GapR w t g cs) (x y : Nat) (h1 : 1 ≤ x) (h2 : x ≤ y) (h3 : y ≤ cs.length + 1) : Calls Tryz.prog 94 #[.pointer (some ⟨t, 0, none⟩), .int .i64 x, .int .i64 y] w fun e w' => e = .returned (.bool true) ∧ Below w.heap.size w w' := by
  have hl := h.len
  have HS := Lib.hid (gsize h)
  have d1 : decide ((1 : Int) ≤ (x : Int)) = true := decide_eq_true (by omega)
  have d2 : (x ≤ y) = True := by simp; omega
  obtain ⟨n, hn⟩ : ∃ n, cs.length + 1 = n := ⟨_, rfl⟩
  have s1 : IntKind.i64.wrap ((cs.length : Int) + 1) = (n : Int) := by rw [IntWalk.i64_in _ (by omega)]; omega
  rw [hn] at h3
  have d3 : (y ≤ n) = True := by simp; omega
  clear h h1 h2 h3 hn
  go_enter Tryz.func94, Tryz.ntmps94
  go_wp2_with fail
  refine HS.out.mono ?_
  rintro e w1 ⟨rfl, hb1⟩
  go_wp2_with fail
  go_ret
  exact ⟨rfl, hb1⟩
/-- A part of the gap buffer's block, as a string. -/
theorem GapI.conv {B : List Int} {cap st en : Nat} (h : GapI w t g B cap st en cs) (a b c : Nat) (hab : a ≤ b) (hb : b ≤ B.length) :
    (convert 120 9 (.slice (some ⟨g, a, none⟩) (b - a) c)).run Tryz.prog w = .ok (.string (runesBytes ((B.drop a).take (b - a)))) w := by
  have hr := run_convert_runes (P := Tryz.prog) w 120 9 21 ⟨g, a, none⟩ (b - a) c ((B.drop a).take (b - a)) (by rw [List.length_take, List.length_drop]; omega) Tryz.underlying120 Tryz.underlying21 Tryz.underlying9 (fun j hj => by
    rw [List.length_take, List.length_drop] at hj
    have hz : B[a + j]? = some (((B.drop a).take (b - a)).getD j 0) := by
      rw [List.getD_eq_getElem?_getD, List.getElem?_take, if_pos (by omega), List.getElem?_drop, List.getElem?_eq_getElem (show a + j < B.length by omega)]; rfl
    have := h.hb (a + j) _ hz
    rw [Go.WideShapes.add_plain]; exact this)
  rw [hr, List.take_take, Nat.min_self]
theorem part_lo {B R : List Int} {a b st : Nat} (h : b ≤ st) (hs : st ≤ B.length) : (B.drop a).take (b - a) = ((B.take st ++ R).drop a).take (b - a) := by
  apply List.ext_getElem?
  intro i
  rw [List.getElem?_take, List.getElem?_take]
  split
  · rw [List.getElem?_drop, List.getElem?_drop, List.getElem?_append_left (by rw [List.length_take]; omega), List.getElem?_take, if_pos (by omega)]
  · rfl
theorem part_hi {B : List Int} {a b st en : Nat} (h : st ≤ a) (h1 : st ≤ en) (hs : en ≤ B.length) : (B.drop (a + (en - st))).take (b - a) = ((B.take st ++ B.drop en).drop a).take (b - a) := by
  apply List.ext_getElem?
  intro i
  rw [List.getElem?_take, List.getElem?_take]
  split
  · rw [List.getElem?_drop, List.getElem?_drop, List.getElem?_append_right (by rw [List.length_take]; omega), List.getElem?_drop, List.length_take]
    congr 1
    omega
  · rfl
theorem part_mid {B : List Int} {a b st en : Nat} (h : a ≤ st) (hb : st ≤ b) (h1 : st ≤ en) (hs : en ≤ B.length) : (B.drop a).take (st - a) ++ (B.drop en).take (b - st) = ((B.take st ++ B.drop en).drop a).take (b - a) := by
  have e1 : (B.take st ++ B.drop en).drop a = (B.drop a).take (st - a) ++ B.drop en := by
    rw [List.drop_append_of_le_length (by rw [List.length_take]; omega), List.drop_take]
  have hl : ((B.drop a).take (st - a)).length = st - a := by rw [List.length_take, List.length_drop]; omega
  rw [e1, List.take_append, hl, show b - a - (st - a) = b - st by omega]
  congr 1
  exact (List.take_of_length_le (by rw [hl]; omega)).symm
theorem encS_part (cs : List Nat) (a n : Nat) : encS ((cs.drop a).take n) = runesBytes (((cs.map Int.ofNat).drop a).take n) := by
  unfold encS
  rw [List.map_take, List.map_drop]; rfl
set_option maxRecDepth 100000 in
set_option maxHeartbeats 4000000 in
theorem gslice_ok (h : GapR w t g cs) (x y : Nat) (h1 : 1 ≤ x) (h2 : x ≤ y) (h3 : y ≤ cs.length + 1) : Calls Tryz.prog 52 #[.pointer (some ⟨t, 0, none⟩), .int .i64 x, .int .i64 y] w fun e w' => e = .returned (.tuple #[.string (encS (subL cs x y)), .int .i64 0]) ∧ Below w.heap.size w w' := by
  have HSP := Lib.hid (gspan_ok h x y h1 h2 h3)
  obtain ⟨B, cap, st, en, h⟩ := h
  have hlen := h.len
  have hc := h.hc
  have hm := h.hm
  have q1 := h.h1
  have q2 := h.h2
  have HN := Lib.hid (gnone h)
  have H := Lib.hid h
  obtain ⟨a, ha⟩ : ∃ a, a + 1 = x := ⟨x - 1, by omega⟩
  obtain ⟨b, hb⟩ : ∃ b, b + 1 = y := ⟨y - 1, by omega⟩
  have s1 : IntKind.i64.wrap ((x : Int) - 1) = (a : Int) := by rw [IntWalk.i64_in _ (by omega)]; omega
  have s2 : IntKind.i64.wrap ((y : Int) - 1) = (b : Int) := by rw [IntWalk.i64_in _ (by omega)]; omega
  have hab : a ≤ b := by omega
  have hbn : b ≤ cs.length := by omega
  have HE : Hid (subL cs x y = (cs.drop a).take (b - a)) := Lib.hid (by unfold subL; rw [show x - 1 = a by omega, show y - x = b - a by omega])
  clear h h1 h2 h3
  go_enter Tryz.func52, Tryz.ntmps52
  go_wp2_with fail
  refine HN.out.mono ?_
  rintro e w1 ⟨rfl, rfl⟩
  go_wp2_with fail
  refine HSP.out.mono ?_
  rintro e w1 ⟨rfl, hb1⟩
  have h1 := H.out.up hb1
  have H1 := Lib.hid h1
  have c0 := h1.c0
  have c1 := h1.c1
  have c2 := h1.c2
  clear h1 H HSP HN
  by_cases hA : b ≤ st
  · have d1 : (b ≤ st) = True := by simp; omega
    have hcv := fun c => H1.out.conv a b c hab (by omega)
    rw [part_lo (R := B.drop en) hA (by omega), H1.out.hB, ← encS_part, ← HE.out] at hcv
    by_cases hca : cap = a
    · have hcv0 := fun c => H1.out.conv 0 0 c (Nat.le_refl _) (Nat.zero_le _)
      have e0 : b - a = 0 := by omega
      have e1 : subL cs x y = [] := by rw [HE.out, e0]; rfl
      have hcv1 : ∀ c, (convert 120 9 (.slice (some ⟨g, 0, none⟩) (b - a) c)).run Tryz.prog w1 = .ok (.string (encS (subL cs x y))) w1 := fun c => by rw [e0, e1]; exact hcv0 c
      clear hcv hcv0 e0 e1 HE
      go_wp2_with fail
      go_ret2
      exact ⟨rfl, hb1⟩
    · clear HE
      go_wp2_with fail
      go_ret2
      exact ⟨rfl, hb1⟩
  · have d1 : (b ≤ st) = False := by simp; omega
    by_cases hB : st ≤ a
    · have d2 : (st ≤ a) = True := by simp; omega
      have s3 : IntKind.i64.wrap ((a : Int) + (en : Int)) = ((a + en : Nat) : Int) := by rw [IntWalk.i64_in _ (by omega)]; omega
      have s4 : IntKind.i64.wrap (((a + en : Nat) : Int) - (st : Int)) = ((a + (en - st) : Nat) : Int) := by rw [IntWalk.i64_in _ (by omega)]; omega
      have s5 : IntKind.i64.wrap ((b : Int) + (en : Int)) = ((b + en : Nat) : Int) := by rw [IntWalk.i64_in _ (by omega)]; omega
      have s6 : IntKind.i64.wrap (((b + en : Nat) : Int) - (st : Int)) = ((b + (en - st) : Nat) : Int) := by rw [IntWalk.i64_in _ (by omega)]; omega
      obtain ⟨a', ha'⟩ : ∃ a', a + (en - st) = a' := ⟨_, rfl⟩
      obtain ⟨b', hb'⟩ : ∃ b', b + (en - st) = b' := ⟨_, rfl⟩
      obtain ⟨a2, ha2⟩ : ∃ a2, a + en = a2 := ⟨_, rfl⟩
      obtain ⟨b2, hb2⟩ : ∃ b2, b + en = b2 := ⟨_, rfl⟩
      rw [ha2] at s3 s4
      rw [hb2] at s5 s6
      rw [ha'] at s4
      rw [hb'] at s6
      have hab' : a' ≤ b' := by omega
      have hbB : b' ≤ B.length := by omega
      have hcv : ∀ (X : UpW w1.heap.size w1) c, (convert 120 9 (.slice (some ⟨g, a', none⟩) (b' - a') c)).run Tryz.prog X.w = .ok (.string (encS (subL cs x y))) X.w := fun X c => by
        rw [(H1.out.up X.up).conv a' b' c hab' hbB, HE.out, encS_part, ← H1.out.hB, ← part_hi hB q1 q2, ha', show b' - a' = b - a by omega]
      have C0 : ∀ X : UpW w1.heap.size w1, X.w.cell? ⟨t, 0, none⟩ = _ := fun X => (H1.out.up X.up).c0
      have C1 : ∀ X : UpW w1.heap.size w1, X.w.cell? ⟨t, 1, none⟩ = _ := fun X => (H1.out.up X.up).c1
      have C2 : ∀ X : UpW w1.heap.size w1, X.w.cell? ⟨t, 2, none⟩ = _ := fun X => (H1.out.up X.up).c2
      have hbc : b' ≤ cap := by omega
      by_cases hca : cap = a'
      · have hcv1 : ∀ (X : UpW w1.heap.size w1) c, (convert 120 9 (.slice (some ⟨g, 0, none⟩) (b' - a') c)).run Tryz.prog X.w = .ok (.string (encS (subL cs x y))) X.w := fun X c => by
          have e0 : b' - a' = 0 := by omega
          have e1 : subL cs x y = [] := by rw [HE.out, show b - a = 0 by omega]; rfl
          rw [e0, e1]; exact (H1.out.up X.up).conv 0 0 c (Nat.le_refl _) (Nat.zero_le _)
        clear ha' hb' ha2 hb2 ha hb HE hcv
        go_wp2_with fail
        refine wp_region_up w1.heap.size (by kernel_rfl) (by kernel_rfl) ?_
        repeat (go_big_quiet_step (fail))
        refine wpQuiet_nil ?_
        rintro ⟨w2, hbb⟩
        dsimp only
        clear C0 C1 C2
        go_wp2_with fail
        go_ret2
        exact ⟨rfl, up2 hb1 hbb⟩
      · clear ha' hb' ha2 hb2 ha hb HE
        go_wp2_with fail
        refine wp_region_up w1.heap.size (by kernel_rfl) (by kernel_rfl) ?_
        repeat (go_big_quiet_step (fail))
        refine wpQuiet_nil ?_
        rintro ⟨w2, hbb⟩
        dsimp only
        clear C0 C1 C2
        go_wp2_with fail
        go_ret2
        exact ⟨rfl, up2 hb1 hbb⟩
    · have d2 : (st ≤ a) = False := by simp; omega
      have s5 : IntKind.i64.wrap ((b : Int) + (en : Int)) = ((b + en : Nat) : Int) := by rw [IntWalk.i64_in _ (by omega)]; omega
      have s6 : IntKind.i64.wrap (((b + en : Nat) : Int) - (st : Int)) = ((b + (en - st) : Nat) : Int) := by rw [IntWalk.i64_in _ (by omega)]; omega
      obtain ⟨b', hb'⟩ : ∃ b', b + (en - st) = b' := ⟨_, rfl⟩
      obtain ⟨b2, hb2⟩ : ∃ b2, b + en = b2 := ⟨_, rfl⟩
      rw [hb2] at s5 s6
      rw [hb'] at s6
      have hab' : en ≤ b' := by omega
      have hbB : b' ≤ B.length := by omega
      have hbc : b' ≤ cap := by omega
      have has : a ≤ st := by omega
      have hsc : st ≤ cap := by omega
      have hca : ¬ cap = a := by omega
      have hce : ¬ cap = en := by omega
      obtain ⟨S1, hS1⟩ : ∃ S1, runesBytes ((B.drop a).take (st - a)) = S1 := ⟨_, rfl⟩
      obtain ⟨S2, hS2⟩ : ∃ S2, runesBytes ((B.drop en).take (b' - en)) = S2 := ⟨_, rfl⟩
      have hcv1 : ∀ (X : UpW w1.heap.size w1) c, (convert 120 9 (.slice (some ⟨g, a, none⟩) (st - a) c)).run Tryz.prog X.w = .ok (.string S1) X.w := fun X c => by
        rw [(H1.out.up X.up).conv a st c has (by omega), hS1]
      have hcv2 : ∀ (X : UpW w1.heap.size w1) c, (convert 120 9 (.slice (some ⟨g, en, none⟩) (b' - en) c)).run Tryz.prog X.w = .ok (.string S2) X.w := fun X c => by
        rw [(H1.out.up X.up).conv en b' c hab' hbB, hS2]
      have hfin : encS (subL cs x y) = S1 ++ S2 := by
        rw [HE.out, encS_part, ← H1.out.hB, ← part_mid has (by omega) q1 q2, ← hS1, ← hS2, show b' - en = b - st by omega]
        apply bytes_ext
        have hr := fun (l : List Int) (s : ByteArray) => (show (l.foldl (fun r n => r ++ Utf8.encode n) s).data.toList = s.data.toList ++ l.flatMap (fun n => (Utf8.encode n).data.toList) from by
          induction l generalizing s with
          | nil => simp
          | cons c l ih => rw [List.foldl_cons, ih]; simp)
        unfold runesBytes
        rw [hr, List.flatMap_append]
        simp only [ByteArray.data_append, Array.toList_append, hr]
        simp
      have HF := Lib.hid hfin
      have z1 : S1.size ≤ 4 * B.length := by
        have := runesBytes_size_le ((B.drop a).take (st - a))
        rw [hS1, List.length_take, List.length_drop] at this; omega
      have z2 : S2.size ≤ 4 * B.length := by
        have := runesBytes_size_le ((B.drop en).take (b' - en))
        rw [hS2, List.length_take, List.length_drop] at this; omega
      have hadd : ∀ w, (binOp .add 9 (.string S1) (.string S2)).run Tryz.prog w = .ok (.string (S1 ++ S2)) w := fun w => by
        rw [binOp_string_add]; exact run_string_add_sum _ S1 S2 (by omega)
      have C0 : ∀ X : UpW w1.heap.size w1, X.w.cell? ⟨t, 0, none⟩ = _ := fun X => (H1.out.up X.up).c0
      have C1 : ∀ X : UpW w1.heap.size w1, X.w.cell? ⟨t, 1, none⟩ = _ := fun X => (H1.out.up X.up).c1
      have C2 : ∀ X : UpW w1.heap.size w1, X.w.cell? ⟨t, 2, none⟩ = _ := fun X => (H1.out.up X.up).c2
      clear hb' hb2 ha hb HE hS1 hS2 hfin
      go_wp2_with fail
      refine wp_region_up w1.heap.size (by kernel_rfl) (by kernel_rfl) ?_
      repeat (go_big_quiet_step (fail))
      refine wpQuiet_nil ?_
      rintro ⟨w2, hbb⟩
      dsimp only
      clear C0 C1 C2
      go_wp2_with fail
      go_ret2
      exact ⟨by rw [HF.out]; rfl, up2 hb1 hbb⟩
end
end Go.Proofs.YtklaeecegkpgmaaGreatDoor
