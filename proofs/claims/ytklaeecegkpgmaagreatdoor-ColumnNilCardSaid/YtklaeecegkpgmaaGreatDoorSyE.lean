import Derived.Test.YtklaeecegkpgmaaGreatDoorSyD
import Derived.Test.YtklaeecegkpgmaaGreatDoorJs
import Derived.Test.YtklaeecegkpgmaaGreatDoorFsP
/- Buffer.Text; runes.List; syntax's chars. -/
namespace Go.Proofs.YtklaeecegkpgmaaGreatDoor
open Go.RowKit
set_option linter.unusedVariables false
set_option linter.unusedSimpArgs false
section
variable {w w' : World} {b g tb bs ms mo : Nat} {S : BS} {cs : List Nat}
set_option maxRecDepth 100000 in
set_option maxHeartbeats 2000000 in
theorem bText_ok (h : BufT w b g S cs) (x y : Nat) (h1 : S.lo ≤ x) (h2 : x ≤ y) (h3 : y ≤ S.hi) : Calls Tryz.prog 26 #[pAt b, .int .i64 x, .int .i64 y] w fun r w' => r = .returned (.tuple #[.string (encS (subL cs x y)), .int .i64 0]) ∧ Below w.heap.size w w' := by
  have hr : reachB S x y = true := by unfold reachB; simp; omega
  have HM := Lib.hid (ChkAt.made h.blk)
  have HV := Lib.hid (within_ok h.blk x y)
  rw [hr] at HV
  have q1 := h.h1
  have q4 := h.h4
  have H := Lib.hid h
  clear h hr
  go_enter Tryz.func26, Tryz.ntmps26
  go_wp2_with fail
  refine HV.out.mono ?_
  rintro r w1 ⟨k1, k2, rfl, hb1, hc⟩
  change ChkAt w1 True (unlC k1 k2 0) at hc
  have C1 := Lib.hid hc
  have B1 := Lib.hid hb1
  have M1 := Lib.hid (HM.out.up hb1)
  clear hc hb1 HV HM
  go_wp2_with fail
  have hb4 := below1 w1 (.cells #[(madeC b).val, (unlC k1 k2 0).val] 72)
  have hR3 := RSl.arr (enc := encK) (zs := [madeC b, unlC k1 k2 0]) (MapKept.heap_alloc w1 (.cells #[(madeC b).val, (unlC k1 k2 0).val] 72)).1 rfl
  have HF := first_any hR3 2 (by simp) (by
    intro c hc
    simp only [List.mem_cons, List.not_mem_nil, or_false] at hc
    rcases hc with rfl | rfl
    · exact M1.out.en
    · exact C1.out.en) (by
    intro i c w4 hi hz hb
    rcases i with _ | _ | i
    · cases hi; exact M1.out.run trivial w4 (up2 hb4 hb)
    · cases hi; exact C1.out.run trivial w4 (up2 hb4 hb)
    · simp at hi)
  have HF := Lib.hid HF
  have B2 := Lib.hid (up2 B1.out hb4)
  clear hR3 hb4 M1 C1 B1
  refine HF.out.mono ?_
  rintro e w5 ⟨rfl, hb5⟩
  have hh := H.out.up (up2 B2.out hb5)
  have q9 := hh.blk.cell (j := 9) rfl
  have H5 := Lib.hid hh
  have B5 := Lib.hid (up2 B2.out hb5)
  clear hh hb5 B2 HF H
  simp only [firstE]
  go_wp2_with fail
  refine (gslice_ok H5.out.gap x y (by omega) h2 (by omega)).mono ?_
  rintro e w6 ⟨rfl, hb6⟩
  go_wp2_with fail
  go_ret2
  exact ⟨rfl, up2 B5.out hb6⟩
set_option maxRecDepth 100000 in
set_option maxHeartbeats 2000000 in
theorem rlist_ok {N : Nat} (hT : Tabs N w) (s : ByteArray) (hs : s.size ≤ 1000000) (hv : (charsD s.data.toList).isSome = true) : Calls Tryz.prog 95 #[.string s] w fun e w' => ∃ v, e = .returned (.tuple #[v, .int .i64 0]) ∧ ROwn encI 3 1 w.heap.size w' v ((chrs s).map Int.ofNat) ∧ Below w.heap.size w w' := by
  have hlen := chrs_len s
  obtain ⟨cs, hcs⟩ := Option.isSome_iff_exists.1 hv
  have hcc : chrs s = cs := by unfold chrs; rw [hcs]; rfl
  rw [hcc] at hlen ⊢
  have hV := valid_any s w (by omega) hT
  rw [vld_chars, hv] at hV
  have HV := Lib.hid hV
  have HCS := Lib.hid hcs
  clear hV hv hcc hcs hT
  go_enter Tryz.func95, Tryz.ntmps95
  go_wp2_with fail
  refine HV.out.mono ?_
  rintro e w1 ⟨rfl, hb1⟩
  have z1 := hb1.size
  have B1 := Lib.hid hb1
  clear hb1 HV
  go_wp2_with fail
  have hit := w1.iter_heap s 0
  have hsz : (w1.iter s 0).heap.size = w1.heap.size + 1 := by simp [World.iter]
  have HBi := Lib.hid (show Below w1.heap.size w1 (w1.iter s 0) from below1 w1 _)
  generalize w1.iter s 0 = W at *
  go_loopw [4, 6] (fun va vb wr => ∃ (p : Nat) (pre rest : List Nat), p ≤ s.size ∧ cs = pre ++ rest ∧ charsD (s.data.toList.drop p) = some rest ∧ wr.heap[w1.heap.size]? = some (.stringIter s p) ∧
      ROwn encI 3 1 (w1.heap.size + 1) wr va (pre.map Int.ofNat) ∧ Below w.heap.size w wr ∧ w1.heap.size + 1 ≤ wr.heap.size) (fun _ _ wr => s.size - wr.iterPos w1.heap.size)
  case atStart => exact ⟨0, [], cs, Nat.zero_le _, rfl, by simpa using HCS.out, hit, ROwn.nil _ _, up2 B1.out HBi.out, by omega⟩
  case round =>
    obtain ⟨p, pre, rest, hp, hcs, hrest, hit, hown, hbel, hsz2⟩ := hrel
    clear hsz
    generalize w1.heap.size = K at *
    by_cases hlt : p < s.size
    · obtain ⟨c, rest', hrc, hd1, hd2, hd3, hd4, hc⟩ := decode_step hlt hrest
      subst hrc
      have hnx := fun ty => Lib.run_next_any_at (P := Tryz.prog) wr K s p ty hit hlt
      rw [hd1] at hnx
      have hit1 := Lib.iterAt_heap wr K s p (p + (Utf8.decode s p).2) hit
      have hoth := fun j (hj : j ≠ K) => Lib.iterAt_other wr K j s (p + (Utf8.decode s p).2) hj
      have hsz1 := Lib.iterAt_size wr K s (p + (Utf8.decode s p).2)
      have hip : (wr.iterPos K) = p := iterPos_of hit
      rw [hip]
      have hpp : p < p + (Utf8.decode s p).2 := by omega
      have hbel1 : Below w.heap.size w (wr.iterAt K s (p + (Utf8.decode s p).2)) := hbel.trans ⟨rfl, rfl, rfl, by rw [hsz1]; exact Nat.le_refl _, fun j hj => hoth j (by omega)⟩
      clear hd1 hd2
      generalize p + (Utf8.decode s p).2 = p' at *
      generalize wr.iterAt K s p' = w2 at *
      have hown1 := hown.kept (fun g hg => hoth g (by have := hown.base hg; omega))
      have hsz1' : K + 1 ≤ w2.heap.size := by rw [hsz1]; exact hsz2
      clear hsz1
      have s1 : IntKind.i64.wrap (c : Int) = (c : Int) := IntWalk.i64_in _ (by unfold isN at hc; omega)
      have hl : pre.length + 1 ≤ cs.length := by rw [hcs]; simp
      obtain ⟨v', w3, happ, hown2, hb2, hon2, _⟩ := append_elem eltI hown1 hsz1' (c : Int) (by rw [List.length_map]; omega) (by omega)
      have HP : Hid (∀ ty, (Builtin.append_ #[50, 50] ty #[u4, .slice (some ⟨w2.heap.size, 0, none⟩) 1 1]).run Tryz.prog (w2.alloc (.cells #[.int .i64 (c : Int)] 3)) = .ok v' w3) := Lib.hid happ
      have HNX := Lib.hid hnx
      clear happ
      go_wp2_with (at_builtin; refine wpList_app_run (v := u4) (u := .slice (some ⟨w2.heap.size, 0, none⟩) 1 1) rfl _ _ _ rfl rfl rfl HP.out ?_)
      have hit2 := (hb2.block K (by omega)).trans hit1
      go_roundw
      case rel =>
        refine ⟨p', pre ++ [c], rest', hd3, by rw [hcs, List.append_assoc]; rfl, hd4, hit2, by rw [List.map_append]; exact hown2, hbel1.trans (hb2.mono (by omega)), Nat.le_trans hsz1' hb2.size⟩
      case measure =>
        rw [iterPos_of hit2]; omega
    · have hp2 : p = s.size := by omega
      have hrn : rest = [] := by
        have : s.data.toList.drop p = [] := List.drop_eq_nil_of_le (by rw [hp2]; simp)
        rw [this, charsD_nil] at hrest
        cases hrest; rfl
      subst hrn
      rw [List.append_nil] at hcs
      have hnx := fun ty => Lib.run_next_end_at (P := Tryz.prog) wr K s p ty hit hlt
      go_wp2_with fail
      go_ret2
      exact ⟨_, rfl, by rw [hcs]; exact hown.low (by omega), hbel⟩
end
end Go.Proofs.YtklaeecegkpgmaaGreatDoor
