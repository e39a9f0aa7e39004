/- Overlays: Drop; Add whole. -/
import Derived.Test.YthjkdeocdhdkaaaGreatOvF
import Derived.LaidEqlPtr
namespace Go.Proofs.YthjkdeocdhdkaaaGreat
open Go.RowKit
set_option linter.unusedVariables false
set_option linter.unusedSimpArgs false
section
variable {w w' : World} {x : OverE} {L L' : List OverE} {b : Nat} {pr ev nx : Int} {v v' : Value} {A : Option Addr}
/-- Some overlays are gone; the slice has been cut in its own block. -/
theorem OvsAt.sub (h : OvsAt w b pr ev v L nx) (hs : L'.Sublist L) (hown : ROwn encT 72 1 0 w' v' L') (hv : v'.ownBlock = v.ownBlock) (ho : Only (fun k => v.ownBlock = some k) w w') :
    OvsAt (w'.setCell ⟨b, 2, none⟩ v') b pr ev v' L' nx := by
  have hb0 : w'.heap[b]? = some (.cells #[.int .i64 pr, .int .i64 ev, v, .int .i64 nx, .bool true] 63 (0, 0)) := (ho.block b h.blt h.vb).trans h.blk
  have h1 := heap_setCell_same w' b 2 _ _ v' hb0
  refine ⟨h1, hown.kept fun g hg => Below.heap_setCell _ _ _ _ (fun e => h.vb (by rw [← hv, hg, show g = b from e])), fun x hx => ?_, fun x hx => h.fx x (hs.subset hx), h.pw.sublist hs, fun x hx => ⟨(h.nb x (hs.subset hx)).1, by rw [hv]; exact (h.nb x (hs.subset hx)).2⟩, by rw [hv]; exact h.vb⟩
  have hxm := hs.subset hx
  exact (h.ins x hxm).kept fun k hk => (Below.heap_setCell _ _ _ _ (fun e => (h.nb x hxm).1 (show b ∈ x.foot by rw [show b = k from e.symm]; exact hk))).trans (ho.block k ((h.ins x hxm).lt hk) (fun e => (h.nb x hxm).2 k e hk))
theorem foot_sub (hs : L'.Sublist L) (hv : v'.ownBlock = v.ownBlock) : ∀ k ∈ footS b v' L', k ∈ footS b v L := by
  intro k hk
  rcases foot_cases hk with rfl | h1 | ⟨x, hx, h1⟩
  · exact foot_b
  · exact foot_v (by rw [← hv]; exact h1)
  · exact foot_x (hs.subset hx) h1
theorem enters_drop : Enters 63 := enters_mk Tryz.func63 (by kernel_rfl) rfl
theorem infoO : ∃ j, Tryz.prog.info? 69 = some j ∧ j.size ≠ 0 := by
  have h : (Tryz.prog.info? 69).map (·.size) = some 6 := by kernel_rfl
  cases hi : Tryz.prog.info? 69 with
  | none => rw [hi] at h; cases h
  | some j => rw [hi] at h; simp at h; exact ⟨j, rfl, by omega⟩
set_option maxHeartbeats 400000 in
theorem dropC {y : OverE} (q : Nat) (hq : w.cell? ⟨q, 0, none⟩ = some (.pointer (some ⟨x.g, 0, none⟩))) (hx : OverIn w x) (hy : OverIn w y) :
    Calls Tryz.prog 63 #[.pointer (some ⟨y.g, 0, none⟩), .pointer (some ⟨q, 0, none⟩)] w fun e w' => e = .returned (.bool (y.g == x.g)) ∧ w = w' := by
  obtain ⟨j, hj, hj0⟩ := infoO
  have hrun : (binOp .eql 72 (.pointer (some ⟨y.g, 0, none⟩)) (.pointer (some ⟨x.g, 0, none⟩))).run Tryz.prog w = .ok (.bool (y.g == x.g)) w := by
    by_cases e : y.g = x.g
    · rw [e, run_eql_ptr_same w _ Tryz.underlying72 hj]; simp
    · rw [run_eql_ptr_other w Tryz.underlying72 hj hj0 (fun h => e (congrArg Addr.block h)) hy.blk hx.blk]; simp [e]
  clear hx hy hj hj0
  go_enter Tryz.func63, Tryz.ntmps63
  go_wp2
  go_ret
  exact ⟨rfl, rfl⟩
def dropE (D : List OverD) (id : Int) : Int := if (endsD D id).isSome then 0 else 8
def dropD (D : List OverD) (id : Int) : List OverD := D.filter (fun x => x.id != id)
theorem filter_g (h : OvsAt w b pr ev v L nx) (hid : (L.map OverE.id).Nodup) (hx : x ∈ L) : L.filter (fun y => !(y.g == x.g)) = L.filter (fun y => y.id != x.id) := by
  apply List.filter_congr
  intro y hy
  obtain ⟨i, hi⟩ := List.mem_iff_getElem?.1 hx
  obtain ⟨j, hj⟩ := List.mem_iff_getElem?.1 hy
  obtain ⟨hil, hie⟩ := List.getElem?_eq_some_iff.1 hi
  obtain ⟨hjl, hje⟩ := List.getElem?_eq_some_iff.1 hj
  by_cases e : i = j
  · subst e; rw [hi] at hj; cases hj; simp
  · have h1 : y.g ≠ x.g := fun eg => by
      rcases Nat.lt_or_gt_of_ne e with h2 | h2
      · have := List.pairwise_iff_getElem.1 h.pw i j hil hjl h2
        rw [hie, hje] at this
        exact this x.g (foot_g x) (eg ▸ foot_g y)
      · have := List.pairwise_iff_getElem.1 h.pw j i hjl hil h2
        rw [hie, hje] at this
        exact this y.g (foot_g y) (eg ▸ foot_g x)
    have h2 : y.id ≠ x.id := fun eg => e ((List.getElem_inj (xs := L.map OverE.id) (h₀ := by simpa using hil) (h₁ := by simpa using hjl) hid).1 (by simp [hie, hje, eg]))
    have a1 : (y.g == x.g) = false := by simpa using h1
    have a2 : (y.id != x.id) = true := by simpa using h2
    rw [a1, a2]; rfl
set_option maxRecDepth 100000 in
set_option maxHeartbeats 1000000 in
theorem odrop (h : OvsAt w b pr ev v L nx) (hid : (L.map OverE.id).Nodup) (id : Int) (hl : L.length ≤ 1000000) : Calls Tryz.prog 33 #[.pointer (some ⟨b, 0, none⟩), .int .i64 id] w (OPost w b pr ev v L (.int .i64 (dropE (L.map OverE.dat) id)) (dropD (L.map OverE.dat) id) nx) := by
  unfold dropE dropD
  rw [find_dat]
  cases hx : L.find? (fun x => x.id == id) with
  | none =>
    have HF := Lib.hid (find_no' h hx hl)
    have H := Lib.hid h
    have hfl : (L.map OverE.dat).filter (fun x => x.id != id) = L.map OverE.dat := by
      rw [List.filter_eq_self]
      intro y hy
      obtain ⟨z, hz, rfl⟩ := List.mem_map.1 hy
      have := List.find?_eq_none.1 hx z hz
      simpa [OverE.dat] using this
    rw [hfl]
    simp only [Option.map_none, Option.isSome_none, Bool.false_eq_true, if_false]
    clear h hx hfl
    go_enter Tryz.func33, Tryz.ntmps33
    go_wp2_with fail
    refine HF.out.mono ?_
    rintro e w1 ⟨rfl, hb⟩
    have HB := Lib.hid (up2 hb (below1 w1 (.cells #[.pointer none] 72)))
    clear hb
    go_wp2_with fail
    go_ret
    exact OPost.same H.out HB.out
  | some x =>
    have hxm := List.mem_of_find?_eq_some hx
    have hxid : x.id = id := by have := List.find?_some hx; simpa using this
    have HF := Lib.hid (find_yes' h hx hl)
    have hfg := filter_g h hid hxm
    rw [hxid] at hfg
    have hfd : (L.map OverE.dat).filter (fun x => x.id != id) = (L.filter (fun y => !(y.g == x.g))).map OverE.dat := by
      rw [hfg, List.filter_map]; rfl
    rw [hfd]
    have H := Lib.hid h
    have HX := Lib.hid hxm
    simp only [Option.map_some, Option.isSome_some, if_true]
    clear h hx hid hfg hfd hxm hxid
    go_enter Tryz.func33, Tryz.ntmps33
    go_wp2_with fail
    refine HF.out.mono ?_
    rintro e w1 ⟨rfl, hb⟩
    have hbw := up2 hb (below1 w1 (.cells #[.pointer (some ⟨x.g, 0, none⟩)] 72))
    have h1 := H.out.up hbw
    have c2 := h1.cell 2 _ rfl
    obtain ⟨A, cp, hv, hA1, hA2, hAs⟩ := h1.own.shape eltT
    have HD := Lib.hid (delete_any (w := w1.alloc (.cells #[.pointer (some ⟨x.g, 0, none⟩)] 72)) (caps := #[.pointer (some ⟨w1.heap.size, 0, none⟩)]) (p := fun y => y.g == x.g) enters_drop L.length cp rfl (hv ▸ h1.own)
      (Inv := fun _ w2 => Only (fun k => v.ownBlock = some k) (w1.alloc (.cells #[.pointer (some ⟨x.g, 0, none⟩)] 72)) w2)
      (fun pre y post w2 hL ho => by
        have hq : w2.cell? ⟨w1.heap.size, 0, none⟩ = some (.pointer (some ⟨x.g, 0, none⟩)) := (World.cell?_of_block (w := w1.alloc (.cells #[.pointer (some ⟨x.g, 0, none⟩)] 72)) (a := ⟨w1.heap.size, 0, none⟩) (ho.block w1.heap.size (by simp) (fun e => by have := (H.out.up hb).own.lt e; omega))).trans (by simp)
        have hin : ∀ z ∈ L, OverIn w2 z := fun z hz => (h1.ins z hz).kept fun k hk => ho.block k ((h1.ins z hz).lt hk) (fun e => (H.out.nb z hz).2 k e hk)
        exact (dropC w1.heap.size hq (hin x HX.out) (hin y (by rw [hL]; simp))).mono fun e w3 ⟨he, hw⟩ => by subst hw; exact ⟨he, ho, fun g hg => rfl⟩)
      (fun pre wa wb ho hon => ho.trans (hon.mono fun k e => by rw [hv]; exact e)) (Only.refl _ _) hl)
    have H1 := Lib.hid h1
    have HV := Lib.hid hv
    have HB := Lib.hid hbw
    clear h1 hbw hb hAs
    subst hv
    go_wp2_with fail
    refine HD.out.mono ?_
    rintro e w2 ⟨v', rfl, hown, hon, hve⟩
    obtain ⟨A2, cp2, hv2, _, _, _⟩ := hown.shape eltT
    generalize (L.filter (fun y => !(y.g == x.g))).length = L2 at hv2
    subst hv2
    have hs := H1.out.sub (List.filter_sublist (p := fun y => !(y.g == x.g))) hown hve hon
    have d2 := (World.cell?_of_block (w := w1.alloc (.cells #[.pointer (some ⟨x.g, 0, none⟩)] 72)) (a := ⟨b, 2, none⟩) (hon.block b H1.out.blt H1.out.vb)).trans (H1.out.cell 2 _ rfl)
    have z2 := (World.frozen?_of_block (w := w1.alloc (.cells #[.pointer (some ⟨x.g, 0, none⟩)] 72)) (a := ⟨b, 2, none⟩) (hon.block b H1.out.blt H1.out.vb)).trans (H1.out.fz 2)
    have HS := Lib.hid hs
    have HON := Lib.hid hon
    have HVE := Lib.hid hve
    clear hs hown hon hve c2
    go_wp2_with fail
    go_ret
    exact ⟨_, _, rfl, HS.out, rfl, ((Only.of_below HB.out).trans (HON.out.mono fun k hk => foot_v hk)).setCell (p := ⟨b, 2, none⟩) foot_b _, fun k hk => .inl (foot_sub (List.filter_sublist (p := fun y => !(y.g == x.g))) HVE.out k hk)⟩
end
end Go.Proofs.YthjkdeocdhdkaaaGreat
