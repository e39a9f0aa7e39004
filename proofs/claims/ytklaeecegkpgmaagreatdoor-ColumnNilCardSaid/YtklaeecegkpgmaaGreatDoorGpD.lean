import Derived.Test.YtklaeecegkpgmaaGreatDoorJj
import Derived.Test.YtklaeecegkpgmaaGreatDoorJk
import Derived.Test.YtklaeecegkpgmaaGreatDoorJb
import Derived.Lib.OthersKept
/- gap.Insert at a fresh text. -/
namespace Go.Proofs.YtklaeecegkpgmaaGreatDoor
open Go.RowKit
set_option linter.unusedVariables false
set_option linter.unusedSimpArgs false
/-- A mark at which a walk stands still. -/
def Mk (p : Prop) : Prop := p
theorem mk_in {p : Prop} (h : Mk p) : p := h
section
variable {w w' : World} {t g : Nat}
set_option maxHeartbeats 1000000 in
theorem gnone0 {cs : Array Value} {L cap : Nat} (h : Blk w t 122 cs) (hc : cs[0]? = some (.slice (some ⟨g, 0, none⟩) L cap)) : Calls Tryz.prog 93 #[.pointer (some ⟨t, 0, none⟩)] w fun e w' => e = .returned (.bool false) ∧ w = w' := by
  have c0 := h.cell hc
  have hn := Lib.run_eql_slice_nil (P := Tryz.prog) w 120 21 (some ⟨g, 0, none⟩) L cap 0 0 Tryz.underlying120
  clear h hc
  go_enter Tryz.func93, Tryz.ntmps93
  go_wp2_with fail
  go_ret
  exact ⟨rfl, rfl⟩
set_option maxHeartbeats 1000000 in
theorem gsize0 (f : Value) (h : Blk w t 122 (txtC g 0 0 0 0 f)) : Calls Tryz.prog 97 #[.pointer (some ⟨t, 0, none⟩)] w fun e w' => e = .returned (.int .i64 0) ∧ Below w.heap.size w w' := by
  have HN := Lib.hid (gnone0 h rfl)
  have c0 := h.cell (j := 0) rfl
  have c1 := h.cell (j := 1) rfl
  have c2 := h.cell (j := 2) rfl
  clear h
  go_enter Tryz.func97, Tryz.ntmps97
  go_wp2_with fail
  refine HN.out.mono ?_
  rintro e w' ⟨rfl, rfl⟩
  go_wp2_with fail
  go_region
  go_wp2_with fail
  go_ret
  exact ⟨rfl, (Below.refl _ w).drew⟩
/-- One character more. -/
theorem ins_rel {w W : World} {t G K n p' : Nat} {s : ByteArray} {cs pre rest' : List Nat} {c : Nat} {v : Value} {Z : Array Value} (hp : p' ≤ s.size) (hcs : cs = pre ++ c :: rest') (hr : charsD (s.data.toList.drop p') = some rest') (hit : W.heap[K]? = some (.stringIter s p'))
    (hbt : Blk W t 122 (txtC G (n + 16) (n + 16) pre.length (n + 16) (.slice none 0 0))) (hZ : Blk W G 21 Z) (hZl : Z.toList = (pre.map fun c : Nat => Value.int .i32 c) ++ List.replicate (n + 16 - pre.length) (.int .i32 0)) (hl : pre.length < n)
    (hown : ROwn encI 3 1 (K + 1) W v (feeds (pre ++ [c]))) (ho : Only (fun k => k = t) w W) (hs : K + 1 ≤ W.heap.size) (h1 : t < w.heap.size) (h2 : w.heap.size ≤ G) (h3 : G < K) (h4 : w.heap.size ≤ K) :
    ∃ (p : Nat) (pre' rest : List Nat), p ≤ s.size ∧ cs = pre' ++ rest ∧ charsD (s.data.toList.drop p) = some rest ∧ (((W.setCell ⟨G, pre.length, none⟩ (.int .i32 c)).setCell ⟨t, 1, none⟩ (.int .i64 ((pre.length : Int) + 1))).drew).heap[K]? = some (.stringIter s p) ∧
      Blk (((W.setCell ⟨G, pre.length, none⟩ (.int .i32 c)).setCell ⟨t, 1, none⟩ (.int .i64 ((pre.length : Int) + 1))).drew) t 122 (txtC G (n + 16) (n + 16) pre'.length (n + 16) (.slice none 0 0)) ∧
      (∃ Z : Array Value, Blk (((W.setCell ⟨G, pre.length, none⟩ (.int .i32 c)).setCell ⟨t, 1, none⟩ (.int .i64 ((pre.length : Int) + 1))).drew) G 21 Z ∧ Z.toList = (pre'.map fun c : Nat => Value.int .i32 c) ++ List.replicate (n + 16 - pre'.length) (.int .i32 0)) ∧
      ROwn encI 3 1 (K + 1) (((W.setCell ⟨G, pre.length, none⟩ (.int .i32 c)).setCell ⟨t, 1, none⟩ (.int .i64 ((pre.length : Int) + 1))).drew) v (feeds pre') ∧ Only (fun k => k = t) w (((W.setCell ⟨G, pre.length, none⟩ (.int .i32 c)).setCell ⟨t, 1, none⟩ (.int .i64 ((pre.length : Int) + 1))).drew) ∧
      K + 1 ≤ (((W.setCell ⟨G, pre.length, none⟩ (.int .i32 c)).setCell ⟨t, 1, none⟩ (.int .i64 ((pre.length : Int) + 1))).drew).heap.size := by
  have hk : ∀ j, j ≠ G → j ≠ t → (((W.setCell ⟨G, pre.length, none⟩ (.int .i32 c)).setCell ⟨t, 1, none⟩ (.int .i64 ((pre.length : Int) + 1))).drew).heap[j]? = W.heap[j]? := fun j hG ht =>
    (Below.heap_setCell _ ⟨t, 1, none⟩ _ _ ht).trans (Below.heap_setCell _ ⟨G, pre.length, none⟩ _ _ hG)
  have hZs : Z.size = n + 16 := by
    have := congrArg List.length hZl
    simp at this
    omega
  refine ⟨p', pre ++ [c], rest', hp, by rw [hcs, List.append_assoc]; rfl, hr, (hk K (by omega) (by omega)).trans hit, ?_, ?_, hown.kept (fun g hg => hk g (by have := hown.base hg; omega) (by have := hown.base hg; omega)), ?_, ?_⟩
  · have := (hbt.kept (w' := W.setCell ⟨G, pre.length, none⟩ (.int .i32 c)) (Below.heap_setCell _ _ _ _ (show t ≠ G by omega))).set (j := 1) (by simp) (.int .i64 ((pre.length : Int) + 1))
    have e : ((pre ++ [c]).length : Int) = (pre.length : Int) + 1 := by simp
    unfold txtC
    rw [e]
    exact this
  · refine ⟨_, (hZ.set (j := pre.length) (by omega) (.int .i32 c)).kept (Below.heap_setCell _ ⟨t, 1, none⟩ _ _ (show G ≠ t by omega)), ?_⟩
    rw [Array.toList_set, hZl, List.map_append, List.length_append, List.set_append_right _ _ (by simp)]
    have e : n + 16 - pre.length = (n + 16 - (pre.length + 1)) + 1 := by omega
    simp [e, List.replicate_succ]
  · exact ho.then (T := fun k => k = G ∨ k = t) ⟨rfl, rfl, rfl, by simp, fun j _ hj => hk j (fun e => hj (.inl e)) (fun e => hj (.inr e))⟩ (fun j hj hj2 => by rcases hj with h | h <;> omega)
  · show K + 1 ≤ ((W.setCell ⟨G, pre.length, none⟩ (.int .i32 c)).setCell ⟨t, 1, none⟩ (.int .i64 ((pre.length : Int) + 1))).heap.size
    simp; exact hs
set_option maxRecDepth 100000 in
set_option maxHeartbeats 2000000 in
theorem ginsert0 {N : Nat} (hT : Tabs N w) (s : ByteArray) (hs : s.size ≤ 10000) (hv : (charsD s.data.toList).isSome = true) (h : Blk w t 122 (txtC g 0 0 0 0 (.slice none 0 0))) (hNt : N ≤ t) (h0 : 0 < (chrs s).length) :
    Calls Tryz.prog 124 #[.pointer (some ⟨t, 0, none⟩), .int .i64 1, .string s] w fun e w' => e = .returned (.int .i64 0) ∧ Only (fun k => k = t) w w' ∧ ∃ g', w.heap.size ≤ g' ∧ GapR w' t g' (chrs s) := by
  have hn := chrs_len s
  have HL := rlenG_chars hv
  have HI := chrs_isN s
  obtain ⟨cs, hcs⟩ := Option.isSome_iff_exists.1 hv
  have hcc : chrs s = cs := by unfold chrs; rw [hcs]; rfl
  rw [hcc] at hn HL HI h0 ⊢
  have hvl : vld s = true := by rw [vld_chars]; exact hv
  obtain ⟨n, hnn⟩ : ∃ n, n = cs.length := ⟨_, rfl⟩
  have HCS := Lib.hid hcs
  have HII := Lib.hid HI
  have H := Lib.hid h
  have HT := Lib.hid hT
  have HN := Lib.hid (gnone0 h rfl)
  have ht := h.lt
  have HNN := Lib.hid hnn
  rw [← hnn] at HL hn h0
  clear hv hcc hcs HI h hT hnn
  go_enter Tryz.func124, Tryz.ntmps124
  go_wp2_with fail
  refine HN.out.mono ?_
  rintro e w' ⟨rfl, rfl⟩
  go_wp2_with fail
  refine (gsize0 _ H.out).mono ?_
  rintro e w1 ⟨rfl, hb1⟩
  have H1 := Lib.hid (H.out.up hb1)
  have HT1 := Lib.hid (HT.out.up hb1)
  have hV := valid_any s w1 (by omega) HT1.out
  rw [hvl] at hV
  go_wp2_with fail
  refine hV.mono ?_
  rintro e w2 ⟨rfl, hb2⟩
  have H2 := Lib.hid (H1.out.up hb2)
  have HT2 := Lib.hid (HT1.out.up hb2)
  clear hV
  go_wp2_with fail
  have hLn := runesLen s w2 (by omega) HT2.out
  rw [HL] at hLn
  refine hLn.mono ?_
  rintro e w3 ⟨rfl, hb3⟩
  have H3 := Lib.hid (H2.out.up hb3)
  have HB3 := Lib.hid (up2 hb1 (up2 hb2 hb3))
  clear hLn hb1 hb2 hb3 H1 H2 HT1 HT2
  go_wp2_with fail
  refine (gsize0 _ H3.out).mono ?_
  rintro e w4 ⟨rfl, hb4⟩
  have H4 := Lib.hid (H3.out.up hb4)
  have HB4 := Lib.hid (up2 HB3.out hb4)
  have d1 : decide ((65536 : Int) < (n : Int)) = false := decide_eq_false (by omega)
  clear hb4 HB3 H3
  go_wp2_with fail
  refine (gmove0 _ H4.out).mono ?_
  rintro e w5 ⟨rfl, ho5, hk5⟩
  have H5 := Lib.hid hk5
  have HO5 := Lib.hid ho5
  clear hk5 ho5 H4
  go_wp2_with fail
  refine (ggrow0 _ n (by omega) H5.out h0).mono ?_
  rintro e w6 ⟨rfl, ho6, hk6, hs6, hg6⟩
  have H6 := Lib.hid hk6
  have HG6 := Lib.hid hg6
  have HO6 := Lib.hid ((Only.of_below HB4.out : Only (fun k => k = t) w w4).trans (HO5.out.trans ho6))
  have hge : w.heap.size ≤ w5.heap.size := Nat.le_trans HB4.out.size HO5.out.size
  generalize w5.heap.size = G at *
  have f3 := hk6.cell (j := 3) rfl
  clear hk6 hg6 ho6 H5 HO5 HB4 hs6
  go_wp2_with fail
  refine (bsearch_nil 1).mono ?_
  rintro e w7 ⟨rfl, rfl⟩
  go_wp2_with fail
  go_loopw [10] (fun va wr => va = .int .i64 0 ∧ w6 = wr) (fun _ _ => 0)
  case atStart => exact ⟨rfl, rfl⟩
  case round =>
    obtain ⟨rfl, rfl⟩ := hrel
    go_wp2_with fail
    clear f3
    have hit := w6.iter_heap s 0
    have hsz : (w6.iter s 0).heap.size = w6.heap.size + 1 := by simp [World.iter]
    have HBi := Lib.hid (show Below w6.heap.size w6 (w6.iter s 0) from below1 w6 _)
    generalize w6.iter s 0 = W at *
    go_loopw [11, 13] (fun va vb wr => ∃ (p : Nat) (pre rest : List Nat), p ≤ s.size ∧ cs = pre ++ rest ∧ charsD (s.data.toList.drop p) = some rest ∧ wr.heap[w6.heap.size]? = some (.stringIter s p) ∧
      Blk wr t 122 (txtC G (n + 16) (n + 16) pre.length (n + 16) (.slice none 0 0)) ∧ (∃ Z : Array Value, Blk wr G 21 Z ∧ Z.toList = (pre.map fun c : Nat => Value.int .i32 c) ++ List.replicate (n + 16 - pre.length) (.int .i32 0)) ∧
      ROwn encI 3 1 (w6.heap.size + 1) wr va (feeds pre) ∧ Only (fun k => k = t) w wr ∧ w6.heap.size + 1 ≤ wr.heap.size) (fun _ _ wr => s.size - wr.iterPos w6.heap.size)
    case atStart =>
      refine ⟨0, [], cs, Nat.zero_le _, rfl, by simpa using HCS.out, hit, H6.out.up HBi.out, ⟨_, HG6.out.up HBi.out, by simp⟩, ROwn.nil _ _, HO6.out.trans (Only.of_below HBi.out), by omega⟩
    case round =>
      obtain ⟨p, pre, rest, hp, hcs, hrest, hit, hbt, ⟨Z, hZ, hZl⟩, hown, honly, hsz2⟩ := hrel

      have hGt : G ≠ t := by omega
      have hGK : G < w6.heap.size := HG6.out.lt
      have htK : t < w6.heap.size := H6.out.lt
      have hwK : w.heap.size ≤ w6.heap.size := HO6.out.size
      generalize w6.heap.size = K at *
      have hle : pre.length + rest.length = n := by rw [HNN.out, hcs, List.length_append]
      by_cases hlt : p < s.size
      · obtain ⟨c, rest', hrc, hd1, hd2, hd3, hd4, hc⟩ := decode_step hlt hrest
        subst hrc
        have hnx := fun ty => Lib.run_next_any_at (P := Tryz.prog) wr K s p ty hit hlt
        rw [hd1] at hnx
        have hit1 := Lib.iterAt_heap wr K s p (p + (Utf8.decode s p).2) hit
        have hoth := fun j (hj : j ≠ K) => Lib.iterAt_other wr K j s (p + (Utf8.decode s p).2) hj
        have hsz1 := Lib.iterAt_size wr K s (p + (Utf8.decode s p).2)
        have hon1 : Only (fun k => k = t) w (wr.iterAt K s (p + (Utf8.decode s p).2)) := honly.then (T := fun k => k = K) ⟨rfl, rfl, rfl, by rw [hsz1]; exact Nat.le_refl _, fun j _ hj => hoth j hj⟩ (fun j hj hj2 => by omega)
        have hip : (wr.iterPos K) = p := iterPos_of hit
        rw [hip]
        have hpp : p < p + (Utf8.decode s p).2 := by omega
        clear hd1 hd2
        generalize p + (Utf8.decode s p).2 = p' at *
        generalize wr.iterAt K s p' = w1 at *
        have hbt1 := hbt.kept (hoth t (by omega))
        have hZ1 := hZ.kept (hoth G (by omega))
        have hown1 := hown.kept (fun g hg => hoth g (by have := hown.base hg; omega))
        have hsz1' : K + 1 ≤ w1.heap.size := by rw [hsz1]; exact hsz2
        clear hsz1
        simp only [List.length_cons] at hle
        have c0 := hbt1.cell (j := 0) rfl
        have c1 := hbt1.cell (j := 1) rfl
        have HNX := Lib.hid hnx
        by_cases h10 : c = 10
        · have d10 : ((c : Int) == (10 : Int)) = true := by simp [h10]
          have s1 : IntKind.i64.wrap ((pre.length : Int) + 1) = (pre.length : Int) + 1 := IntWalk.i64_in _ (by omega)
          obtain ⟨v', w2, happ, hown2, hb2, hon2, _⟩ := append_elem eltI hown1 hsz1' ((pre.length : Int) + 1) (by have := feedsF_len pre 1; unfold feeds; omega) (by omega)
          have HP : Hid (∀ ty, (Builtin.append_ #[50, 50] ty #[u11, .slice (some ⟨w1.heap.size, 0, none⟩) 1 1]).run Tryz.prog (w1.alloc (.cells #[.int .i64 ((pre.length : Int) + 1)] 3)) = .ok v' w2) := Lib.hid happ
          clear happ
          go_wp2_with (at_builtin; refine wpList_app_run (v := u11) (u := .slice (some ⟨w1.heap.size, 0, none⟩) 1 1) rfl _ _ _ rfl rfl rfl HP.out ?_)
          have hit2 := (hb2.block K (by omega)).trans hit1
          have hbt2 := hbt1.kept (hb2.block t (by omega))
          have hZ2 := hZ1.kept (hb2.block G (by omega))
          have hsz2' : K + 1 ≤ w2.heap.size := Nat.le_trans hsz1' hb2.size
          have hon3 : Only (fun k => k = t) w w2 := hon1.then (T := fun k => K + 1 ≤ k) ⟨hb2.os, hb2.tape, hb2.output, hb2.size, fun j hj hj2 => hb2.block j (by omega)⟩ (fun j hj hj2 => by omega)
          have hown3 : ROwn encI 3 1 (K + 1) w2 v' (feeds (pre ++ [c])) := by
            unfold feeds at hown2 ⊢
            rw [feedsF_snoc, if_pos h10]
            have e : ((1 + pre.length : Nat) : Int) = (pre.length : Int) + 1 := by omega
            rw [e]; exact hown2
          subst h10
          clear hown2 hit1 hbt1 hZ1 hon1 hsz1' hown1 c0 c1 hb2 hon2
          have HIT := Lib.hid hit2
          have q0 := hbt2.cell (j := 0) rfl
          have q1 := hbt2.cell (j := 1) rfl
          have qf := hbt2.fz 1
          have hZs : Z.size = n + 16 := by
            have := congrArg List.length hZl
            simp at this
            omega
          have q2 := hZ2.cell (j := pre.length) (v := Z[pre.length]'(by omega)) (Array.getElem?_eq_getElem _)
          have q3 := hZ2.fz pre.length
          have hlt2 : (pre.length : Int) < (n : Int) + 16 := by omega
          have s1 : IntKind.i64.wrap ((pre.length : Int) + 1) = (pre.length : Int) + 1 := IntWalk.i64_in _ (by omega)
          generalize hzz : Z[pre.length]'(by omega) = zz at *
          have HREL := Lib.hid (ins_rel (w := w) (s := s) (p' := p') hd3 hcs hd4 hit2 hbt2 hZ2 hZl (by omega) hown3 hon3 hsz2' ht hge hGK hwK)
          clear hbt2 hZ2 hit2 hown3 hon3 hsz2'
          go_wp2_with fail
          go_region
          go_wp2_with fail
          go_roundw
          case rel => exact HREL.out
          case measure =>
            have e : (((w2.setCell ⟨G, pre.length, none⟩ (.int .i32 10)).setCell ⟨t, 1, none⟩ (.int .i64 ((pre.length : Int) + 1))).drew).iterPos K = p' := iterPos_of (by
              exact ((Below.heap_setCell _ ⟨t, 1, none⟩ _ _ (show K ≠ t by omega)).trans (Below.heap_setCell _ ⟨G, pre.length, none⟩ _ _ (show K ≠ G by omega))).trans HIT.out)
            rw [e]
            omega
          
        · have d10 : ((c : Int) == (10 : Int)) = false := by simp; omega
          have hown3 : ROwn encI 3 1 (K + 1) w1 u11 (feeds (pre ++ [c])) := by
            unfold feeds at hown1 ⊢
            rw [feedsF_snoc, if_neg h10, List.append_nil]; exact hown1
          clear c0 c1 hown1
          have HIT := Lib.hid hit1
          have q0 := hbt1.cell (j := 0) rfl
          have q1 := hbt1.cell (j := 1) rfl
          have qf := hbt1.fz 1
          have hZs : Z.size = n + 16 := by
            have := congrArg List.length hZl
            simp at this
            omega
          have q2 := hZ1.cell (j := pre.length) (v := Z[pre.length]'(by omega)) (Array.getElem?_eq_getElem _)
          have q3 := hZ1.fz pre.length
          have hlt2 : (pre.length : Int) < (n : Int) + 16 := by omega
          have s1 : IntKind.i64.wrap ((pre.length : Int) + 1) = (pre.length : Int) + 1 := IntWalk.i64_in _ (by omega)
          generalize hzz : Z[pre.length]'(by omega) = zz at *
          have HREL := Lib.hid (ins_rel (w := w) (s := s) (p' := p') hd3 hcs hd4 hit1 hbt1 hZ1 hZl (by omega) hown3 hon1 hsz1' ht hge hGK hwK)
          clear hbt1 hZ1 hit1 hown3 hon1 hsz1'
          go_wp2_with fail
          go_region
          go_wp2_with fail
          go_roundw
          case rel => exact HREL.out
          case measure =>
            have e : (((w1.setCell ⟨G, pre.length, none⟩ (.int .i32 c)).setCell ⟨t, 1, none⟩ (.int .i64 ((pre.length : Int) + 1))).drew).iterPos K = p' := iterPos_of (by
              exact ((Below.heap_setCell _ ⟨t, 1, none⟩ _ _ (show K ≠ t by omega)).trans (Below.heap_setCell _ ⟨G, pre.length, none⟩ _ _ (show K ≠ G by omega))).trans HIT.out)
            rw [e]
            omega
          
      · have hp2 : p = s.size := by omega
        have hrn : rest = [] := by
          have : s.data.toList.drop p = [] := List.drop_eq_nil_of_le (by rw [hp2]; simp)
          rw [this, charsD_nil] at hrest
          cases hrest; rfl
        subst hrn
        rw [List.append_nil] at hcs
        have hln : pre.length = n := by rw [HNN.out, hcs]
        obtain rfl : pre = cs := hcs.symm
        have hnx := fun ty => Lib.run_next_end_at (P := Tryz.prog) wr K s p ty hit hlt
        have q3 := hbt.cell (j := 3) rfl
        have qf := hbt.fz 3
        have HIns := Lib.hid (sinsert_nil hsz2 hown (by have := feedsF_len pre 1; unfold feeds; omega))
        have HBT := Lib.hid hbt
        have HZ := Lib.hid hZ
        have HZL := Lib.hid hZl
        have HON := Lib.hid honly
        clear hbt hZ hZl honly hown hit hrest
        go_wp2_with fail
        refine HIns.out.mono ?_
        rintro e w8 ⟨v', rfl, hown8, hb8⟩
        have hb9 := HBT.out.up hb8
        have hZ9 := HZ.out.up hb8
        have qf := hb9.fz 3
        have q3 := hb9.cell (j := 3) rfl
        have hon9 : Only (fun k => k = t) w w8 := HON.out.trans (Only.of_below hb8)
        obtain ⟨A8, c8, rfl, _, _, _⟩ := hown8.shape eltI
        clear hb8 hown8
        have HB9 := Lib.hid hb9
        have HZ9 := Lib.hid hZ9
        clear hb9 hZ9
        go_wp2_with fail
        go_ret
        refine ⟨rfl, hon9.setCell (p := ⟨t, 3, none⟩) rfl _, G, hge, pre.map Int.ofNat ++ List.replicate 16 0, n + 16, n, n + 16, ?_⟩
        have hbf := HB9.out.set (j := 3) (by simp) (.slice A8 (feeds pre).length c8)
        have hZf := HZ9.out.kept (Below.heap_setCell w8 ⟨t, 3, none⟩ (.slice A8 (feeds pre).length c8) G (show G ≠ t by omega))
        have hBl : (pre.map Int.ofNat ++ List.replicate 16 (0 : Int)).length = n + 16 := by simp [hln]
        refine ⟨?_, ?_, ?_, by rw [hBl]; exact Nat.le_refl _, by omega, hZf.lt, fun i z hz => ?_, by omega, by rw [hBl]; exact Nat.le_refl _, ?_, HII.out⟩
        · rw [hBl]; exact hbf.cell (j := 0) rfl
        · rw [← hln]; exact hbf.cell (j := 1) rfl
        · exact hbf.cell (j := 2) rfl
        · refine hZf.cell ?_
          rw [← Array.getElem?_toList, HZL.out, hln, show n + 16 - n = 16 by omega]
          have e : (pre.map fun c : Nat => Value.int .i32 c) ++ List.replicate 16 (Value.int .i32 0) = (pre.map Int.ofNat ++ List.replicate 16 (0 : Int)).map (fun z => Value.int .i32 z) := by
            rw [List.map_append, List.map_map, List.map_replicate]; rfl
          rw [e, List.getElem?_map, hz]; rfl
        · rw [← hln, List.take_left' (by simp), List.drop_eq_nil_of_le (by simp), List.append_nil]
end
end Go.Proofs.YtklaeecegkpgmaaGreatDoor
