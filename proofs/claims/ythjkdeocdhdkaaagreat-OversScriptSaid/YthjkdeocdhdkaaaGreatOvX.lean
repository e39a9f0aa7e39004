/- Overlays: Put, Take. -/
import Derived.Test.YthjkdeocdhdkaaaGreatOvU
import Derived.Test.YthjkdeocdhdkaaaGreatOvW
namespace Go.Proofs.YthjkdeocdhdkaaaGreat
open Go.RowKit
set_option linter.unusedVariables false
set_option linter.unusedSimpArgs false
section
variable {w w' : World} {x : OverE} {L L' : List OverE} {b : Nat} {pr ev nx : Int} {v v' : Value} {A : Option Addr} {ps : List PropE}
def withPs (x : OverE) (A : Option Addr) (c : Nat) (ps : List PropE) : OverE := ⟨x.id, x.f, x.t, x.fr, x.re, A, c, ps, x.g⟩
def psD (x : OverD) (ps : List PropE) : OverD := ⟨x.id, x.f, x.t, x.fr, x.re, ps⟩
/-- The properties of one overlay lie in another slice now. -/
theorem OvsAt.props {k : Nat} {A' : Option Addr} {c' : Nat} (h : OvsAt w b pr ev v L nx) (hx : L[k]? = some x) (ho : Only (fun g => x.pv.ownBlock = some g) w w') (hown : ROwn encP 71 3 0 w' (.slice A' ps.length c') ps)
    (hv : (Value.slice A' ps.length c').ownBlock = x.pv.ownBlock ∨ ∃ g, (Value.slice A' ps.length c').ownBlock = some g ∧ w.heap.size ≤ g) :
    OvsAt (w'.setCell ⟨x.g, 5, none⟩ (.slice A' ps.length c')) b pr ev v (L.set k (withPs x A' c' ps)) nx ∧ (∀ j ∈ (withPs x A' c' ps).foot, j ∈ x.foot ∨ w.heap.size ≤ j) := by
  have hxm := List.mem_of_getElem? hx
  have hin := h.ins x hxm
  have hfx := h.fx x hxm
  have hgl : x.g < w.heap.size := hin.lt (foot_g x)
  have hb0 : w'.heap[x.g]? = some (.cells (encO x).toArray 69 (0, 0)) := (ho.block x.g hgl (fun e => hfx x.g e rfl)).trans hin.blk
  have h1 := heap_setCell_same w' x.g 5 _ _ (.slice A' ps.length c') hb0
  have hne : ∀ j, (Value.slice A' ps.length c').ownBlock = some j → j ≠ x.g := fun j e => by
    rcases hv with h2 | ⟨g, h2, h3⟩
    · exact hfx j (h2 ▸ e)
    · rw [h2] at e; cases e; omega
  have hfoot : ∀ j ∈ (withPs x A' c' ps).foot, j ∈ x.foot ∨ w.heap.size ≤ j := fun j hj => by
    rcases List.mem_cons.1 hj with h2 | h2
    · exact .inl (by rw [h2]; exact foot_g x)
    · have h3 : (Value.slice A' ps.length c').ownBlock = some j := mem_ownB.1 h2
      rcases hv with h4 | ⟨g, h4, h5⟩
      · exact .inl (List.mem_cons_of_mem _ (mem_ownB.2 (h4 ▸ h3)))
      · rw [h4] at h3; cases h3; exact .inr h5
  refine ⟨h.put (y := withPs x A' c' ps) hx rfl ⟨h1, hown.kept fun g hg => Below.heap_setCell _ _ _ _ (fun e => hne g hg e)⟩ (fun j e => hne j e) hfoot (fun j hj hjx => ?_), hfoot⟩
  rw [Below.heap_setCell _ _ _ _ (fun e => hjx (show j ∈ x.foot by rw [show j = x.g from e]; exact foot_g x))]
  exact ho.block j hj (fun e => hjx (List.mem_cons_of_mem _ (mem_ownB.2 e)))
def putE (D : List OverD) (id nm : Int) : Int := match endsD D id with
  | none => 8
  | some x => if nm < 0 then 17 else if isP x.ps nm then 0 else if 64 ≤ x.ps.length then 7 else 0
def putPs (ps : List PropE) (nm k n : Int) : List PropE := if isP ps nm then ps.set (ixP ps nm) ⟨nm, k, n⟩ else ps.take (ixP ps nm) ++ ⟨nm, k, n⟩ :: ps.drop (ixP ps nm)
def putD (D : List OverD) (id nm k n : Int) : List OverD := if putE D id nm = 0 then mapId D id (fun x => psD x (putPs x.ps nm k n)) else D
def takeE (D : List OverD) (id nm : Int) : Int := match endsD D id with
  | none => 8
  | some x => if nm < 0 then 17 else 0
def takePs (ps : List PropE) (nm : Int) : List PropE := if isP ps nm then ps.take (ixP ps nm) ++ ps.drop (ixP ps nm + 1) else ps
def takeD (D : List OverD) (id nm : Int) : List OverD := if takeE D id nm = 0 then mapId D id (fun x => psD x (takePs x.ps nm)) else D
theorem isP_lt {nm : Int} (h : isP ps nm = true) : ixP ps nm < ps.length := by
  obtain ⟨k, n, h1⟩ := isP_at h
  exact (List.getElem?_eq_some_iff.1 h1).1
theorem mapId_some {D : List OverD} {id : Int} {u : OverD → OverD} {k : Nat} (h : D.findIdx? (fun x => x.id == id) = some k) : mapId D id u = D.modify k u := by unfold mapId; rw [h]
theorem putD_err {D : List OverD} {id nm k n : Int} (h : putE D id nm ≠ 0) : putD D id nm k n = D := by unfold putD; rw [if_neg h]
set_option maxRecDepth 100000 in
set_option maxHeartbeats 2000000 in
theorem oput (h : OvsAt w b pr ev v L nx) (hp : ∀ x ∈ L, SortedP x.ps ∧ x.ps.length ≤ 64) (id nm k n : Int) (hl : L.length ≤ 1000000) :
    Calls Tryz.prog 28 #[.pointer (some ⟨b, 0, none⟩), .int .i64 id, .int .i64 nm, .agg #[.int .i64 k, .int .i64 n]] w (OPost w b pr ev v L (.int .i64 (putE (L.map OverE.dat) id nm)) (putD (L.map OverE.dat) id nm k n) nx) := by
  have hB := below1 w (.cells #[.int .i64 k, .int .i64 n] 29)
  have hal := (MapKept.heap_alloc w (.cells #[.int .i64 k, .int .i64 n] 29)).1
  have h1 := h.up hB
  have HB0 := Lib.hid hB
  cases hx : L.find? (fun x => x.id == id) with
  | none =>
    have he : putE (L.map OverE.dat) id nm = 8 := by unfold putE; rw [find_dat, hx]; rfl
    rw [putD_err (by rw [he]; omega), he]
    have HF := Lib.hid (find_no' h1 hx hl)
    have H := Lib.hid h
    clear h hx h1 hal hB he
    go_enter Tryz.func28, Tryz.ntmps28
    go_wp2_with fail
    refine HF.out.mono ?_
    rintro e w1 ⟨rfl, hb⟩
    have HB := Lib.hid (up2 HB0.out hb)
    clear hb
    go_wp2_with fail
    go_ret
    exact OPost.same H.out HB.out
  | some x =>
    obtain ⟨j, hk1, hk2, hk3⟩ := find_idx_some hx
    have hxm := List.mem_of_getElem? hk2
    have hends : endsD (L.map OverE.dat) id = some x.dat := by rw [find_dat, hx]; rfl
    have HF := Lib.hid (find_yes' h1 hx hl)
    have H := Lib.hid h
    by_cases hn : nm < 0
    · have he : putE (L.map OverE.dat) id nm = 17 := by unfold putE; rw [hends]; simp only [hn, if_true]
      rw [putD_err (by rw [he]; omega), he]
      clear h hx h1 hal hB he hk1 hk2 hk3 hxm hends
      go_enter Tryz.func28, Tryz.ntmps28
      go_wp2_with fail
      refine HF.out.mono ?_
      rintro e w1 ⟨rfl, hb⟩
      have HB := Lib.hid (up2 HB0.out hb)
      clear hb
      go_wp2_with fail
      go_ret
      exact OPost.same H.out HB.out
    · have dn : decide (nm < (0 : Int)) = false := decide_eq_false hn
      obtain ⟨hs, hpl⟩ := hp x hxm
      obtain ⟨A', c', hv, hc1, hc2, hr⟩ := h.ins x hxm |>.own.shape eltP
      have hA : x.A = A' ∧ x.c = c' := by unfold OverE.pv at hv; cases hv; exact ⟨rfl, rfl⟩
      obtain ⟨rfl, rfl⟩ := hA
      have HSK := Lib.hid (fun w1 (hb : Below w.heap.size w w1) => seek_any hs (hr.up hb) nm x.c (by omega))
      have HK := Lib.hid hk2
      have HXM := Lib.hid hxm
      have HAL := Lib.hid hal
      have hidx : (L.map OverE.dat).findIdx? (fun x => x.id == id) = some j := by rw [idx_dat]; exact hk1
      cases his : isP x.ps nm with
      | true =>
        have hil := isP_lt his
        have he : putE (L.map OverE.dat) id nm = 0 := by unfold putE; rw [hends]; simp only [hn, if_false]; rw [show x.dat.ps = x.ps from rfl, his]; rfl
        obtain ⟨k0, n0, hpx⟩ := isP_at his
        have hps : putPs x.ps nm k n = x.ps.set (ixP x.ps nm) ⟨nm, k, n⟩ := by unfold putPs; rw [his]; rfl
        obtain ⟨gp, cp, hpv, _, _, _, hgp, hfz, hcs⟩ := (h.ins x hxm).own.lies eltP (by omega)
        have hpv2 : x.A = some ⟨gp, 0, none⟩ := (Value.slice.inj hpv).1
        have hD : putD (L.map OverE.dat) id nm k n = (L.set j (withPs x x.A x.c (x.ps.set (ixP x.ps nm) ⟨nm, k, n⟩))).map OverE.dat := by
          unfold putD
          rw [he, if_pos rfl, mapId_some hidx, dat_set (u := fun x => psD x (putPs x.ps nm k n)) hk2]
          show _ = psD x.dat (putPs x.ps nm k n)
          rw [hps]; rfl
        rw [he, hD]
        simp only [his] at HSK
        obtain ⟨i, hi⟩ : ∃ i, i = ixP x.ps nm := ⟨_, rfl⟩
        rw [← hi] at HSK hil hpx ⊢
        simp only [hpv2] at HSK
        have hst : ∀ (W : World), Below w.heap.size w W → OvsAt ((W.setCell ⟨gp, i * 3 + 1, none⟩ (.int .i64 k)).setCell ⟨gp, i * 3 + 2, none⟩ (.int .i64 n)) b pr ev v (L.set j (withPs x x.A x.c (x.ps.set i ⟨nm, k, n⟩))) nx := fun W hbW => by
          have hW := h.up hbW
          have hin := hW.ins x hxm
          have hne : gp ≠ x.g := h.fx x hxm gp (by rw [hpv]; rfl)
          have hown := hin.own
          unfold OverE.pv at hown
          rw [hpv2] at hown
          have p1 := hown.put eltP hpx (j := 1) (u := .int .i64 k) (y := ⟨nm, k, n0⟩) (by omega) rfl
          have hl1 : (x.ps.set i ⟨nm, k, n0⟩).length = x.ps.length := by simp
          have p2 := ROwn.put eltP (xs := x.ps.set i ⟨nm, k, n0⟩) (g := gp) (cap := x.c) (w := W.setCell ⟨gp, i * 3 + 1, none⟩ (.int .i64 k)) (by rw [hl1]; exact p1) (i := i) (x := ⟨nm, k, n0⟩) (by rw [List.getElem?_set_self hil]) (j := 2) (u := .int .i64 n) (y := ⟨nm, k, n⟩) (by omega) rfl
          rw [List.set_set, hl1] at p2
          have ho : ∀ q, q ≠ gp → ((W.setCell ⟨gp, i * 3 + 1, none⟩ (.int .i64 k)).setCell ⟨gp, i * 3 + 2, none⟩ (.int .i64 n)).heap[q]? = W.heap[q]? := fun q hq => by
            rw [Below.heap_setCell _ _ _ _ hq, Below.heap_setCell _ _ _ _ hq]
          have hgf : gp ∈ x.foot := List.mem_cons_of_mem _ (mem_ownB.2 (by rw [hpv]; rfl))
          refine hW.put (y := withPs x x.A x.c (x.ps.set i ⟨nm, k, n⟩)) hk2 rfl ⟨?_, ?_⟩ (fun q e => h.fx x hxm q ?_) (fun q hq => .inl ?_) (fun q _ hqx => ho q (fun e => hqx (e ▸ hgf)))
          · show _ = some (Obj.cells (encO (withPs x x.A x.c (x.ps.set i ⟨nm, k, n⟩))).toArray _ _)
            have e2 : encO (withPs x x.A x.c (x.ps.set i ⟨nm, k, n⟩)) = encO x := by simp [withPs]
            rw [e2]
            exact (ho x.g hne.symm).trans hin.blk
          · show ROwn encP _ 3 0 _ (.slice x.A (x.ps.set i ⟨nm, k, n⟩).length x.c) (x.ps.set i ⟨nm, k, n⟩)
            rw [List.length_set, hpv2]
            exact p2
          · have : (withPs x x.A x.c (x.ps.set i ⟨nm, k, n⟩)).pv = x.pv := by simp [withPs, OverE.pv]
            rw [this] at e; exact e
          · have : (withPs x x.A x.c (x.ps.set i ⟨nm, k, n⟩)).foot = x.foot := by simp [withPs, OverE.pv, OverE.foot]
            rw [this] at hq; exact hq
        have hft : ∀ q ∈ footS b v (L.set j (withPs x x.A x.c (x.ps.set i ⟨nm, k, n⟩))), q ∈ footS b v L ∨ w.heap.size ≤ q := foot_set hk2 (fun q hq => .inl (by
          have : (withPs x x.A x.c (x.ps.set i ⟨nm, k, n⟩)).foot = x.foot := by simp [withPs, OverE.pv, OverE.foot]
          rw [this] at hq; exact hq))
        have hgf : gp ∈ footS b v L := foot_x hxm (List.mem_cons_of_mem _ (mem_ownB.2 (by rw [hpv]; rfl)))
        have HCS := Lib.hid hcs
        have HFZ := Lib.hid hfz
        have HST := Lib.hid hst
        have HFT := Lib.hid hft
        have HGF := Lib.hid hgf
        have HPX := Lib.hid hpx
        have hin5 := (h.ins x hxm).cell 5 _ rfl
        have HIN := Lib.hid (h.ins x hxm)
        have hxl := (h.ins x hxm).lt (foot_g x)
        have hil' : (i : Int) < x.ps.length := by omega
        have hwz := hB.size
        clear h hx h1 hal hB he hk1 hk2 hk3 hxm hends hs hpl hv hc1 hc2 hr his hidx hps hst hft hgf hD hi hcs hfz hpx hin5 hp hpv
        go_enter Tryz.func28, Tryz.ntmps28
        go_wp2_with fail
        refine HF.out.mono ?_
        rintro e w1 ⟨rfl, hb⟩
        have hbw := up2 HB0.out hb
        have e5 := (HIN.out.up hbw).cell 5 _ rfl
        rw [hpv2] at e5
        have HB1 := Lib.hid hb
        have HBW := Lib.hid hbw
        clear hb hbw
        go_wp2_with fail
        refine (HSK.out _ HBW.out).mono ?_
        rintro e w2 ⟨rfl, hb2⟩
        have hbw := up2 HBW.out hb2
        have f5 := (HIN.out.up hbw).cell 5 _ rfl
        rw [hpv2] at f5
        have hbb := HB1.out.trans (hb2.mono HB1.out.size)
        have m0 := (hbb.cell (p := ⟨w.heap.size, 0, none⟩) (by simp)).trans (show _ = some (.int .i64 k) by simp only [World.cell?, HAL.out]; rfl)
        have m1 := (hbb.cell (p := ⟨w.heap.size, 1, none⟩) (by simp)).trans (show _ = some (.int .i64 n) by simp only [World.cell?, HAL.out]; rfl)
        have z1 : w2.frozen? ⟨gp, i * 3 + 1, none⟩ = false := (hbw.frozen (p := ⟨gp, i * 3 + 1, none⟩) hgp).trans (HFZ.out _ (by omega))
        have z2 : w2.frozen? ⟨gp, i * 3 + 2, none⟩ = false := (hbw.frozen (p := ⟨gp, i * 3 + 2, none⟩) hgp).trans (HFZ.out _ (by omega))
        have q1 : w2.cell? ⟨gp, i * 3 + 1, none⟩ = some (.int .i64 k0) := (hbw.cell (p := ⟨gp, i * 3 + 1, none⟩) hgp).trans (HCS.out i _ 1 _ HPX.out rfl)
        have q2 : w2.cell? ⟨gp, i * 3 + 2, none⟩ = some (.int .i64 n0) := (hbw.cell (p := ⟨gp, i * 3 + 2, none⟩) hgp).trans (HCS.out i _ 2 _ HPX.out rfl)
        have HBW2 := Lib.hid hbw
        clear hbw hbb hb2 e5
        go_wp2_with fail
        go_region
        go_wp2_with fail
        go_ret
        exact ⟨v, _, rfl, HST.out w2.drew HBW2.out.drew, rfl, ((Only.of_below HBW2.out.drew).setCell (p := ⟨gp, i * 3 + 1, none⟩) HGF.out _).setCell (p := ⟨gp, i * 3 + 2, none⟩) HGF.out _, HFT.out⟩
      | false =>
        by_cases hfull : 64 ≤ x.ps.length
        · have he : putE (L.map OverE.dat) id nm = 7 := by unfold putE; rw [hends]; simp only [hn, if_false]; rw [show x.dat.ps = x.ps from rfl, his]; simp [hfull]
          rw [putD_err (by rw [he]; omega), he]
          simp only [his] at HSK
          have HIN := Lib.hid (h.ins x hxm)
          have hfu : (64 : Int) ≤ x.ps.length := by omega
          clear h hx h1 hal hB he hk1 hk2 hk3 hxm hends hs hpl hv hc1 hc2 hr his hidx hp
          go_enter Tryz.func28, Tryz.ntmps28
          go_wp2_with fail
          refine HF.out.mono ?_
          rintro e w1 ⟨rfl, hb⟩
          have hbw := up2 HB0.out hb
          have e5 := (HIN.out.up hbw).cell 5 _ rfl
          have HBW := Lib.hid hbw
          clear hb hbw
          go_wp2_with fail
          refine (HSK.out _ HBW.out).mono ?_
          rintro e w2 ⟨rfl, hb2⟩
          have hbw := up2 HBW.out hb2
          have f5 := (HIN.out.up hbw).cell 5 _ rfl
          have HBW2 := Lib.hid hbw
          clear hbw hb2 e5
          go_wp2_with fail
          go_ret
          exact OPost.same H.out HBW2.out
        · have he : putE (L.map OverE.dat) id nm = 0 := by unfold putE; rw [hends]; simp only [hn, if_false]; rw [show x.dat.ps = x.ps from rfl, his]; simp [hfull]
          obtain ⟨zs, hzs⟩ : ∃ zs, zs = x.ps.take (ixP x.ps nm) ++ ⟨nm, k, n⟩ :: x.ps.drop (ixP x.ps nm) := ⟨_, rfl⟩
          have hps : putPs x.ps nm k n = zs := by unfold putPs; rw [his]; simpa using hzs.symm
          have hD : ∀ A2 c2, putD (L.map OverE.dat) id nm k n = (L.set j (withPs x A2 c2 zs)).map OverE.dat := fun A2 c2 => by
            unfold putD
            rw [he, if_pos rfl, mapId_some hidx, dat_set (u := fun x => psD x (putPs x.ps nm k n)) hk2]
            show _ = psD x.dat (putPs x.ps nm k n)
            rw [hps]; rfl
          rw [he]
          simp only [his] at HSK
          have hix := ixP_le x.ps nm
          obtain ⟨i, hi⟩ : ∃ i, i = ixP x.ps nm := ⟨_, rfl⟩
          rw [← hi] at HSK hix hzs
          have hfu : (x.ps.length : Int) < 64 := by omega
          have HIN := Lib.hid (h.ins x hxm)
          have hxl := (h.ins x hxm).lt (foot_g x)
          have hpl2 : ∀ q, (Value.slice x.A x.ps.length x.c).ownBlock = some q → q < w.heap.size := fun q hq => (h.ins x hxm).own.lt hq
          have HPL := Lib.hid hpl2
          have hcall : ∀ (W W3 : World), Below w.heap.size w W → W3 = (W.alloc (.cells #[.int .i64 nm, .int .i64 k, .int .i64 n] 71)).drew → Calls Tryz.prog 58 #[.slice x.A x.ps.length x.c, .int .i64 i, .slice (some ⟨W.heap.size, 0, none⟩) 1 1] W3 (InsP W3 (.slice x.A x.ps.length x.c) zs) := fun W W3 hbW hW3 => by
            subst hW3
            rw [hzs]
            refine ins_any (p := ⟨nm, k, n⟩) (((h.ins x hxm).up (hbW.trans (((Below.refl _ W).alloc (by have := hbW.size; omega) _).drew))).own) hix (al1 _ _) (fun e => ?_) (by omega)
            have := hpl2 _ e
            have := hbW.size
            omega
          have hfin : ∀ (W W3 W4 : World) A2 c2, Below w.heap.size w W → Below w.heap.size w W3 → Only (fun g => (Value.slice x.A x.ps.length x.c).ownBlock = some g) W3 W4 → ROwn encP 71 3 0 W4 (.slice A2 zs.length c2) zs → ((Value.slice A2 zs.length c2).ownBlock = (Value.slice x.A x.ps.length x.c).ownBlock ∨ ∃ g, (Value.slice A2 zs.length c2).ownBlock = some g ∧ W3.heap.size ≤ g) →
              OPost w b pr ev v L (.int .i64 0) (putD (L.map OverE.dat) id nm k n) nx (.returned (.int .i64 0)) (W4.setCell ⟨x.g, 5, none⟩ (.slice A2 zs.length c2)) := fun W W3 W4 A2 c2 hbW hb3 ho hown hv => by
            have hs3 := hb3.size
            obtain ⟨p1, p2⟩ := (h.up hb3).props hk2 ho hown hv
            exact ⟨v, _, rfl, p1, (hD A2 c2).symm, (((Only.of_below hb3).trans (ho.mono fun q hq => foot_x hxm (List.mem_cons_of_mem _ (mem_ownB.2 hq))))).setCell (p := ⟨x.g, 5, none⟩) (foot_x hxm (foot_g x)) _, foot_set hk2 (fun q hq => (p2 q hq).imp (fun h => h) fun h => Nat.le_trans hs3 h)⟩
          have HCALL := Lib.hid hcall
          have HFIN := Lib.hid hfin
          have hzl : ∃ m, zs.length = m := ⟨_, rfl⟩
          have hne : ∀ q, (Value.slice x.A x.ps.length x.c).ownBlock = some q → q ≠ x.g := fun q hq => h.fx x hxm q hq
          have HNE := Lib.hid hne
          have hwz := hB.size
          clear h hx h1 hal hB he hk1 hk2 hk3 hxm hends hs hpl hv hc1 hc2 hr his hidx hp hps hD hi hzs hcall hfin hpl2 hfull hne hix
          go_enter Tryz.func28, Tryz.ntmps28
          go_wp2_with fail
          refine HF.out.mono ?_
          rintro e w1 ⟨rfl, hb⟩
          have hbw := up2 HB0.out hb
          have e5 := (HIN.out.up hbw).cell 5 _ rfl
          have HB1 := Lib.hid hb
          have HBW := Lib.hid hbw
          clear hb hbw
          go_wp2_with fail
          refine (HSK.out _ HBW.out).mono ?_
          rintro e w2 ⟨rfl, hb2⟩
          have hbw := up2 HBW.out hb2
          have f5 := (HIN.out.up hbw).cell 5 _ rfl
          have hbb := HB1.out.trans (hb2.mono HB1.out.size)
          have m0 := (hbb.cell (p := ⟨w.heap.size, 0, none⟩) (by simp)).trans (show _ = some (.int .i64 k) by simp only [World.cell?, HAL.out]; rfl)
          have m1 := (hbb.cell (p := ⟨w.heap.size, 1, none⟩) (by simp)).trans (show _ = some (.int .i64 n) by simp only [World.cell?, HAL.out]; rfl)
          have HBW2 := Lib.hid hbw
          have hsz2 := hbw.size
          clear hbw hbb hb2 e5
          go_wp2_with fail
          have C5 : ∀ y : OnW (fun q => (Value.slice x.A x.ps.length x.c).ownBlock = some q) w2, y.w.cell? ⟨x.g, 5, none⟩ = some (.slice x.A x.ps.length x.c) := fun y => (World.cell?_of_block (w := w2) (a := ⟨x.g, 5, none⟩) (y.on.block x.g (by omega) (fun e => HNE.out _ e rfl))).trans f5
          have C0 : ∀ y : OnW (fun q => (Value.slice x.A x.ps.length x.c).ownBlock = some q) w2, y.w.cell? ⟨w.heap.size, 0, none⟩ = some (.int .i64 k) := fun y => (World.cell?_of_block (w := w2) (a := ⟨w.heap.size, 0, none⟩) (y.on.block w.heap.size (lt_of_cell m0) (fun e => by have := HPL.out _ e; omega))).trans m0
          have C1 : ∀ y : OnW (fun q => (Value.slice x.A x.ps.length x.c).ownBlock = some q) w2, y.w.cell? ⟨w.heap.size, 1, none⟩ = some (.int .i64 n) := fun y => (World.cell?_of_block (w := w2) (a := ⟨w.heap.size, 1, none⟩) (y.on.block w.heap.size (lt_of_cell m0) (fun e => by have := HPL.out _ e; omega))).trans m1
          have F5 := Lib.hid f5
          clear f5 m0 m1
          refine wp_region_mixO (fun q => (Value.slice x.A x.ps.length x.c).ownBlock = some q) 13 (.one [0, 1, 2, 3, 4, 5, 6, 7, 8] 9 (.one [] 10 (.done [11, 12]))) (by kernel_rfl) (fun c d v a w h => by cases d <;> exact h) (by kernel_rfl) ?_
          simp only [wpMixT, pk_nil, pk_cons, pushAt_zero, pushAt_succ, List.drop_succ_cons, List.drop_zero]
          repeat (go_big_quiet_step (fail))
          refine wpQuiet_nil ?_
          clear C5 C0 C1
          go_wp2_with fail
          refine thenQ_normal ⟨⟨⟨_, (Only.refl _ w2).drew.alloc _⟩, rfl⟩, ?_⟩
          refine wpQuiet_nil ?_
          go_wp2_with fail
          refine (HCALL.out w2 _ HBW2.out rfl).mono ?_
          rintro e w4 ⟨v', rfl, hown4, hon4, hv4⟩
          obtain ⟨A2, c2, hv2, _, _, _⟩ := hown4.shape eltP
          subst hv2
          have hb3 : Below w.heap.size w (w2.alloc (.cells #[.int .i64 nm, .int .i64 k, .int .i64 n] 71)).drew := (up2 HBW2.out (below1 w2 _)).drew
          have hpost := HFIN.out w2 _ w4 A2 c2 HBW2.out hb3 hon4 hown4 hv4
          have hgk : w4.heap[x.g]? = w2.heap[x.g]? := (hon4.block x.g (by have := hb3.size; omega) (fun e => HNE.out _ e rfl)).trans ((MapKept.heap_alloc w2 _).2 x.g (by omega))
          have d5 := (World.cell?_of_block (w := w2) (a := ⟨x.g, 5, none⟩) hgk).trans F5.out
          have z5 := (World.frozen?_of_block (w := w2) (a := ⟨x.g, 5, none⟩) hgk).trans ((HIN.out.up HBW2.out).fz 5)
          have HPO := Lib.hid hpost
          have HON := Lib.hid (((Only.refl (fun q => (Value.slice x.A x.ps.length x.c).ownBlock = some q) w2).alloc (.cells #[.int .i64 nm, .int .i64 k, .int .i64 n] 71)).drew.trans hon4)
          clear hpost hown4 hon4 hv4 hgk hb3
          generalize zs.length = zl at *
          go_wp2_with fail
          refine thenQ_normal ⟨⟨⟨_, HON.out⟩, rfl⟩, ?_⟩
          repeat (go_big_quiet_step (fail))
          refine wpQuiet_nil ?_
          go_wp2_with fail
          go_ret
          exact HPO.out
theorem takeD_err {D : List OverD} {id nm : Int} (h : takeE D id nm ≠ 0) : takeD D id nm = D := by unfold takeD; rw [if_neg h]
theorem list_modify_same {α : Type} {u : α → α} : ∀ {l : List α} {k : Nat} {x : α}, l[k]? = some x → u x = x → l.modify k u = l
  | [], k, x, h, _ => by simp at h
  | a :: l, 0, x, h, e => by simp at h; subst h; simp [e]
  | a :: l, k + 1, x, h, e => by
    have := list_modify_same (l := l) (k := k) (by simpa using h) e
    simp [this]
set_option maxRecDepth 100000 in
set_option maxHeartbeats 2000000 in
theorem otake (h : OvsAt w b pr ev v L nx) (hp : ∀ x ∈ L, SortedP x.ps ∧ x.ps.length ≤ 64) (id nm : Int) (hl : L.length ≤ 1000000) :
    Calls Tryz.prog 35 #[.pointer (some ⟨b, 0, none⟩), .int .i64 id, .int .i64 nm] w (OPost w b pr ev v L (.int .i64 (takeE (L.map OverE.dat) id nm)) (takeD (L.map OverE.dat) id nm) nx) := by
  cases hx : L.find? (fun x => x.id == id) with
  | none =>
    have he : takeE (L.map OverE.dat) id nm = 8 := by unfold takeE; rw [find_dat, hx]; rfl
    rw [takeD_err (by rw [he]; omega), he]
    have HF := Lib.hid (find_no' h hx hl)
    have H := Lib.hid h
    clear h hx he
    go_enter Tryz.func35, Tryz.ntmps35
    go_wp2_with fail
    refine HF.out.mono ?_
    rintro e w1 ⟨rfl, hb⟩
    have HB := Lib.hid hb
    clear hb
    go_wp2_with fail
    go_ret
    exact OPost.same H.out HB.out
  | some x =>
    obtain ⟨j, hk1, hk2, hk3⟩ := find_idx_some hx
    have hxm := List.mem_of_getElem? hk2
    have hends : endsD (L.map OverE.dat) id = some x.dat := by rw [find_dat, hx]; rfl
    have HF := Lib.hid (find_yes' h hx hl)
    have H := Lib.hid h
    by_cases hn : nm < 0
    · have he : takeE (L.map OverE.dat) id nm = 17 := by unfold takeE; rw [hends]; simp only [hn, if_true]
      rw [takeD_err (by rw [he]; omega), he]
      clear h hx he hk1 hk2 hk3 hxm hends
      go_enter Tryz.func35, Tryz.ntmps35
      go_wp2_with fail
      refine HF.out.mono ?_
      rintro e w1 ⟨rfl, hb⟩
      have HB := Lib.hid hb
      clear hb
      go_wp2_with fail
      go_ret
      exact OPost.same H.out HB.out
    · have dn : decide (nm < (0 : Int)) = false := decide_eq_false hn
      obtain ⟨hs, hpl⟩ := hp x hxm
      obtain ⟨A', c', hv, hc1, hc2, hr⟩ := h.ins x hxm |>.own.shape eltP
      have hA : x.A = A' ∧ x.c = c' := by unfold OverE.pv at hv; cases hv; exact ⟨rfl, rfl⟩
      obtain ⟨rfl, rfl⟩ := hA
      have HSK := Lib.hid (fun w1 (hb : Below w.heap.size w w1) => seek_any hs (hr.up hb) nm x.c (by omega))
      have hidx : (L.map OverE.dat).findIdx? (fun x => x.id == id) = some j := by rw [idx_dat]; exact hk1
      have he : takeE (L.map OverE.dat) id nm = 0 := by unfold takeE; rw [hends]; simp only [hn, if_false]
      have HIN := Lib.hid (h.ins x hxm)
      cases his : isP x.ps nm with
      | false =>
        have hD : takeD (L.map OverE.dat) id nm = L.map OverE.dat := by
          unfold takeD
          rw [he, if_pos rfl, mapId_some hidx]
          refine list_modify_same (x := x.dat) (by rw [List.getElem?_map, hk2]; rfl) ?_
          have : takePs x.ps nm = x.ps := by unfold takePs; rw [his]; rfl
          show psD x.dat (takePs x.ps nm) = x.dat
          rw [this]; rfl
        rw [he, hD]
        simp only [his] at HSK
        clear h hx he hk1 hk2 hk3 hxm hends hs hpl hv hc1 hc2 hr his hidx hp hD
        go_enter Tryz.func35, Tryz.ntmps35
        go_wp2_with fail
        refine HF.out.mono ?_
        rintro e w1 ⟨rfl, hb⟩
        have e5 := (HIN.out.up hb).cell 5 _ rfl
        have HBW := Lib.hid hb
        clear hb
        go_wp2_with fail
        refine (HSK.out _ HBW.out).mono ?_
        rintro e w2 ⟨rfl, hb2⟩
        have HBW2 := Lib.hid (up2 HBW.out hb2)
        clear hb2 e5
        go_wp2_with fail
        go_ret
        exact OPost.same H.out HBW2.out
      | true =>
        have hil := isP_lt his
        obtain ⟨zs, hzs⟩ : ∃ zs, zs = x.ps.take (ixP x.ps nm) ++ x.ps.drop (ixP x.ps nm + 1) := ⟨_, rfl⟩
        have hps : takePs x.ps nm = zs := by unfold takePs; rw [his]; simpa using hzs.symm
        have hD : ∀ A2 c2, takeD (L.map OverE.dat) id nm = (L.set j (withPs x A2 c2 zs)).map OverE.dat := fun A2 c2 => by
          unfold takeD
          rw [he, if_pos rfl, mapId_some hidx, dat_set (u := fun x => psD x (takePs x.ps nm)) hk2]
          show _ = psD x.dat (takePs x.ps nm)
          rw [hps]; rfl
        rw [he]
        simp only [his] at HSK
        obtain ⟨i, hi⟩ : ∃ i, i = ixP x.ps nm := ⟨_, rfl⟩
        rw [← hi] at HSK hil hzs
        have hxl := (h.ins x hxm).lt (foot_g x)
        have hcall : ∀ (W : World), Below w.heap.size w W → Calls Tryz.prog 64 #[.slice x.A x.ps.length x.c, .int .i64 i, .int .i64 ((i : Int) + 1)] W (InsP W (.slice x.A x.ps.length x.c) zs) := fun W hbW => by
          obtain ⟨gp, cp, hpv, _, _, _, _, _, _⟩ := ((h.ins x hxm).up hbW).own.lies eltP (by omega)
          obtain ⟨m, hm⟩ : ∃ m, x.ps.length = m + 1 := ⟨x.ps.length - 1, by omega⟩
          have hown := ((h.ins x hxm).up hbW).own
          unfold OverE.pv at hown hpv
          rw [hpv] at hown ⊢
          rw [hm] at hown ⊢
          rw [hzs]
          exact del_any hown hm (by omega) (by omega)
        have hfin : ∀ (W3 W4 : World) A2 c2, Below w.heap.size w W3 → Only (fun g => (Value.slice x.A x.ps.length x.c).ownBlock = some g) W3 W4 → ROwn encP 71 3 0 W4 (.slice A2 zs.length c2) zs → ((Value.slice A2 zs.length c2).ownBlock = (Value.slice x.A x.ps.length x.c).ownBlock ∨ ∃ g, (Value.slice A2 zs.length c2).ownBlock = some g ∧ W3.heap.size ≤ g) →
            OPost w b pr ev v L (.int .i64 0) (takeD (L.map OverE.dat) id nm) nx (.returned (.int .i64 0)) (W4.setCell ⟨x.g, 5, none⟩ (.slice A2 zs.length c2)) := fun W3 W4 A2 c2 hb3 ho hown hv => by
          have hs3 := hb3.size
          obtain ⟨p1, p2⟩ := (h.up hb3).props hk2 ho hown hv
          exact ⟨v, _, rfl, p1, (hD A2 c2).symm, (((Only.of_below hb3).trans (ho.mono fun q hq => foot_x hxm (List.mem_cons_of_mem _ (mem_ownB.2 hq))))).setCell (p := ⟨x.g, 5, none⟩) (foot_x hxm (foot_g x)) _, foot_set hk2 (fun q hq => (p2 q hq).imp (fun h => h) fun h => Nat.le_trans hs3 h)⟩
        have HCALL := Lib.hid hcall
        have HFIN := Lib.hid hfin
        have hne : ∀ q, (Value.slice x.A x.ps.length x.c).ownBlock = some q → q ≠ x.g := fun q hq => h.fx x hxm q hq
        have HNE := Lib.hid hne
        have hil' : (i : Int) < x.ps.length := by omega
        have hi64 : x.ps.length ≤ 64 := hpl
        clear h hx he hk1 hk2 hk3 hxm hends hs hpl hv hc1 hc2 hr his hidx hp hps hD hi hzs hcall hfin hne
        go_enter Tryz.func35, Tryz.ntmps35
        go_wp2_with fail
        refine HF.out.mono ?_
        rintro e w1 ⟨rfl, hb⟩
        have e5 := (HIN.out.up hb).cell 5 _ rfl
        have HBW := Lib.hid hb
        clear hb
        go_wp2_with fail
        refine (HSK.out _ HBW.out).mono ?_
        rintro e w2 ⟨rfl, hb2⟩
        have hbw := up2 HBW.out hb2
        have f5 := (HIN.out.up hbw).cell 5 _ rfl
        have HBW2 := Lib.hid hbw
        have hsz2 := hbw.size
        clear hbw hb2 e5
        go_wp2_with fail
        refine (HCALL.out w2 HBW2.out).mono ?_
        rintro e w4 ⟨v', rfl, hown4, hon4, hv4⟩
        obtain ⟨A2, c2, hv2, _, _, _⟩ := hown4.shape eltP
        subst hv2
        have hpost := HFIN.out _ w4 A2 c2 HBW2.out hon4 hown4 hv4
        have hgk : w4.heap[x.g]? = w2.heap[x.g]? := hon4.block x.g (by omega) (fun e => HNE.out _ e rfl)
        have d5 := (World.cell?_of_block (w := w2) (a := ⟨x.g, 5, none⟩) hgk).trans f5
        have z5 := (World.frozen?_of_block (w := w2) (a := ⟨x.g, 5, none⟩) hgk).trans ((HIN.out.up HBW2.out).fz 5)
        have HPO := Lib.hid hpost
        clear hpost hown4 hon4 hv4 hgk f5
        generalize zs.length = zl at *
        go_wp2_with fail
        go_ret
        exact HPO.out
end
end Go.Proofs.YthjkdeocdhdkaaaGreat
