/- Overlays: Deleted. -/
import Derived.Test.YthjkdeocdhdkaaaGreatOvV
import Derived.Carry
namespace Go.Proofs.YthjkdeocdhdkaaaGreat
open Go.RowKit
set_option linter.unusedVariables false
set_option linter.unusedSimpArgs false
section
variable {w w' : World} {x : OverE} {L L' M : List OverE} {b : Nat} {pr ev nx : Int} {v v' : Value} {A : Option Addr} {m : List (Int × Bool)}
def delX (f t : Int) (x : OverD) : OverD := ⟨x.id, backI x.f f t, backI x.t f t, x.fr, x.re, x.ps⟩
def goesX (ev f t : Int) (x : OverD) : Bool := goesB (x.f == x.t) ev (delX f t x)
def goneI (ev f t : Int) (D : List OverD) : List Int := (D.filter (goesX ev f t)).map OverD.id
def leftD (ev f t : Int) (D : List OverD) : List OverD := (D.filter (fun x => !goesX ev f t x)).map (delX f t)
def delE (f t : Int) : Int := if rightI f t then 0 else 3
def delI (ev f t : Int) (D : List OverD) : List Int := if rightI f t then goneI ev f t D else []
def delD (ev f t : Int) (D : List OverD) : List OverD := if rightI f t then leftD ev f t D else D
/-- After a call that hands back numbers and an error. -/
def OPostS (w : World) (b : Nat) (pr ev : Int) (v : Value) (L : List OverE) (ids : List Int) (er : Int) (D : List OverD) (nx : Int) (e : Ending) (w' : World) : Prop :=
  ∃ gv v' L', e = .returned (.tuple #[gv, .int .i64 er]) ∧ ROwn encI 3 1 w.heap.size w' gv ids ∧ OvsAt w' b pr ev v' L' nx ∧ L'.map OverE.dat = D ∧ Only (· ∈ footS b v L) w w' ∧ ∀ k ∈ footS b v' L', k ∈ footS b v L ∨ w.heap.size ≤ k ∧ gv.ownBlock ≠ some k
theorem OvsAt.sub' (h : OvsAt w b pr ev v L nx) (hs : L'.Sublist L) (hown : ROwn encT 72 1 0 w' v' L') (hv : v'.ownBlock = v.ownBlock) (hk : ∀ k ∈ footS b v L, v.ownBlock ≠ some k → w'.heap[k]? = w.heap[k]?) :
    OvsAt (w'.setCell ⟨b, 2, none⟩ v') b pr ev v' L' nx := by
  have hb0 : w'.heap[b]? = some (.cells #[.int .i64 pr, .int .i64 ev, v, .int .i64 nx, .bool true] 63 (0, 0)) := (hk b foot_b h.vb).trans h.blk
  have h1 := heap_setCell_same w' b 2 _ _ v' hb0
  refine ⟨h1, hown.kept fun g hg => Below.heap_setCell _ _ _ _ (fun e => h.vb (by rw [← hv, hg, show g = b from e])), fun x hx => ?_, fun x hx => h.fx x (hs.subset hx), h.pw.sublist hs, fun x hx => ⟨(h.nb x (hs.subset hx)).1, by rw [hv]; exact (h.nb x (hs.subset hx)).2⟩, by rw [hv]; exact h.vb⟩
  have hxm := hs.subset hx
  exact (h.ins x hxm).kept fun k hk' => (Below.heap_setCell _ _ _ _ (fun e => (h.nb x hxm).1 (by rw [← show k = b from e]; exact hk'))).trans (hk k (foot_x hxm hk') (fun e => (h.nb x hxm).2 k e hk'))
theorem Only.only {S T : Nat → Prop} {a b c : World} (h : Only S a b) (k : Only T b c) (ht : ∀ i, T i → i < a.heap.size → S i) : Only S a c := h.then k ht
def goneL (p : OverE → Bool) (pre : List OverE) : List Int := (pre.filter p).map OverE.id
theorem goneL_snoc (p : OverE → Bool) (pre : List OverE) (x : OverE) : goneL p (pre ++ [x]) = if p x then goneL p pre ++ [x.id] else goneL p pre := by
  unfold goneL
  rw [List.filter_append, List.map_append]
  cases h : p x <;> simp [h]
theorem goneL_len (p : OverE → Bool) (pre : List OverE) : (goneL p pre).length ≤ pre.length := by
  unfold goneL; rw [List.length_map]; exact List.length_filter_le _ _
set_option maxRecDepth 100000 in
set_option maxHeartbeats 2000000 in
theorem odel_bad (h : OvsAt w b pr ev v L nx) (f t : Int) (hr : rightI f t = false) :
    Calls Tryz.prog 31 #[.pointer (some ⟨b, 0, none⟩), .int .i64 f, .int .i64 t] w (OPostS w b pr ev v L [] 3 (L.map OverE.dat) nx) := by
  have hB := below1 w (.cells #[.pointer (some ⟨b, 0, none⟩)] 24)
  have HV := Lib.hid (ovalid (h.up hB))
  have HR := Lib.hid (fun w => hr ▸ right_any f t w)
  have H := Lib.hid h
  have HB := Lib.hid hB
  have k0 : (w.alloc (.cells #[.pointer (some ⟨b, 0, none⟩)] 24)).cell? ⟨w.heap.size, 0, none⟩ = some (.pointer (some ⟨b, 0, none⟩)) := by simp only [World.cell?, (MapKept.heap_alloc w _).1]; rfl
  clear h hr hB
  go_enter Tryz.func31, Tryz.ntmps31
  go_wp2_with fail
  refine HV.out.mono ?_
  rintro e w0 ⟨rfl, rfl⟩
  go_wp2_with fail
  refine (HR.out _).mono ?_
  rintro e w0 ⟨rfl, rfl⟩
  go_wp2_with fail
  go_ret2
  exact ⟨_, v, L, rfl, ROwn.nil _ _, H.out.up HB.out, rfl, Only.of_below HB.out, fun k hk => .inl hk⟩
set_option maxRecDepth 100000 in
set_option maxHeartbeats 4000000 in
theorem odel_ok (h : OvsAt w b pr ev v L nx) (f t : Int) (hr : rightI f t = true) (hp : ∀ x ∈ L, 1 ≤ x.f ∧ x.f ≤ 1099511627776 ∧ 1 ≤ x.t ∧ x.t ≤ 1099511627776) (hs : ∀ x ∈ L, SortedP x.ps ∧ x.ps.length ≤ 64) (hid : (L.map OverE.id).Nodup) (hl : L.length ≤ 1000000) :
    Calls Tryz.prog 31 #[.pointer (some ⟨b, 0, none⟩), .int .i64 f, .int .i64 t] w (OPostS w b pr ev v L (goneI ev f t (L.map OverE.dat)) 0 (leftD ev f t (L.map OverE.dat)) nx) := by
  obtain ⟨A, cp, rfl, hA1, hA2, hAs⟩ := h.own.shape eltT
  have hrb : 1 ≤ f ∧ f ≤ t ∧ t ≤ 1099511627776 := by
    unfold rightI placeI at hr
    simp only [Bool.and_eq_true, decide_eq_true_eq] at hr
    omega
  have hB := below1 w (.cells #[.pointer (some ⟨b, 0, none⟩)] 24)
  have HV := Lib.hid (ovalid (h.up hB))
  have HR := Lib.hid (fun w => hr ▸ right_any f t w)
  have k0 : (w.alloc (.cells #[.pointer (some ⟨b, 0, none⟩)] 24)).cell? ⟨w.heap.size, 0, none⟩ = some (.pointer (some ⟨b, 0, none⟩)) := by simp only [World.cell?, (MapKept.heap_alloc w _).1]; rfl
  obtain ⟨wA, hwA⟩ : ∃ wA, wA = w.alloc (.cells #[.pointer (some ⟨b, 0, none⟩)] 24) := ⟨_, rfl⟩
  obtain ⟨wM, hwM⟩ : ∃ wM, wM = wA.alloc (.map #[] 0) := ⟨_, rfl⟩
  obtain ⟨wB, hwB⟩ : ∃ wB, wB = wM.alloc (.cells #[.map (some (w.heap.size + 1))] 92) := ⟨_, rfl⟩
  have zA : wA.heap.size = w.heap.size + 1 := by rw [hwA]; simp
  have zM : wM.heap.size = w.heap.size + 2 := by rw [hwM]; simp [zA]
  have zB : wB.heap.size = w.heap.size + 3 := by rw [hwB]; simp [zM]
  have bA : Below w.heap.size w wA := by rw [hwA]; exact hB
  have bM : Below wA.heap.size wA wM := by rw [hwM]; exact below1 _ _
  have bB : Below wM.heap.size wM wB := by rw [hwB]; exact below1 _ _
  have im0 : IM wB (w.heap.size + 1) encB [] := by
    have := IM.made wA encB
    rw [← hwM, zA] at this
    exact this.below bB (by omega)
  have bw : Below w.heap.size w wB := up2 (up2 bA bM) bB
  have cO : wB.cell? ⟨w.heap.size, 0, none⟩ = some (.pointer (some ⟨b, 0, none⟩)) := (bB.cell (p := ⟨w.heap.size, 0, none⟩) (by show w.heap.size < _; omega)).trans ((bM.cell (p := ⟨w.heap.size, 0, none⟩) (by show w.heap.size < _; omega)).trans (by rw [hwA]; exact k0))
  have cM : wB.cell? ⟨w.heap.size + 2, 0, none⟩ = some (.map (some (w.heap.size + 1))) := by
    have := (MapKept.heap_alloc wM (.cells #[.map (some (w.heap.size + 1))] 92)).1
    rw [zM, ← hwB] at this
    simp only [World.cell?, this]; rfl
  have c2 : wB.cell? ⟨b, 2, none⟩ = some (.slice A L.length cp) := (h.up bw).cell 2 _ rfl
  have H := Lib.hid h
  have HP := Lib.hid hp
  have HS := Lib.hid hs
  have HID := Lib.hid hid
  have hbl := h.blt
  have HBW := Lib.hid bw
  have HI0 := Lib.hid im0
  have HE := Lib.hid (show wB = ((w.alloc (.cells #[.pointer (some ⟨b, 0, none⟩)] 24)).alloc (.map #[] 0)).alloc (.cells #[.map (some (w.heap.size + 1))] 92) by rw [hwB, hwM, hwA])
  have CO := Lib.hid cO
  have CM := Lib.hid cM
  have C2 := Lib.hid c2
  clear h hr hB hp hs hid bA bM bB bw im0 hAs hwA hwM hwB zA zM cO cM c2
  have hmm := @run_makeMap Tryz.prog
  go_enter Tryz.func31, Tryz.ntmps31
  go_wp2_with fail
  refine HV.out.mono ?_
  rintro e w0 ⟨rfl, rfl⟩
  go_wp2_with fail
  refine (HR.out _).mono ?_
  rintro e w0 ⟨rfl, rfl⟩
  have c2 := C2.out
  rw [HE.out] at c2
  have cO := CO.out
  rw [HE.out] at cO
  go_wp2_with fail
  rw [← HE.out]
  clear c2 cO
  go_loopw [27] (fun vi wr => ∃ (k : Nat) (m : List (Int × Bool)), k ≤ L.length ∧ vi = .int .i64 k ∧ IM wr (w.heap.size + 1) encB m ∧ Only (fun q => q = w.heap.size + 1) wB wr ∧ ∀ j x, j < k → L[j]? = some x → lookM m x.id = some (x.f == x.t)) (fun vi _ => L.length - (intOf vi).toNat)
  case atStart => exact ⟨0, [], by omega, rfl, HI0.out, Only.refl _ _, fun j x hj => by omega⟩
  case round =>
    obtain ⟨k, m, hk, rfl, him, hon, hlk⟩ := hrel
    have hz := hon.size
    have hzb := HBW.out.size
    have hbk : ∀ q, q < w.heap.size → wr.heap[q]? = w.heap[q]? := fun q hq => (hon.block q (by omega) (by omega)).trans (HBW.out.block q hq)
    have hbw : Below w.heap.size w wr := ⟨hon.os.trans HBW.out.os, hon.tape.trans HBW.out.tape, hon.output.trans HBW.out.output, by omega, hbk⟩
    have hBz : w.heap.size + 2 < wB.heap.size := lt_of_cell CM.out
    have cM : wr.cell? ⟨w.heap.size + 2, 0, none⟩ = some (.map (some (w.heap.size + 1))) := (World.cell?_of_block (w := wB) (a := ⟨w.heap.size + 2, 0, none⟩) (hon.block (w.heap.size + 2) (by omega) (by omega))).trans CM.out
    have cO : wr.cell? ⟨w.heap.size, 0, none⟩ = some (.pointer (some ⟨b, 0, none⟩)) := (World.cell?_of_block (w := wB) (a := ⟨w.heap.size, 0, none⟩) (hon.block w.heap.size (by omega) (by omega))).trans CO.out
    have HBR := Lib.hid hbw
    have HIM := Lib.hid him
    have HON := Lib.hid hon
    have HLK := Lib.hid hlk
    clear hbk hbw hon hlk him hz hzb
    by_cases hlt : k < L.length
    · obtain ⟨x, hx⟩ : ∃ x, L[k]? = some x := ⟨_, List.getElem?_eq_getElem hlt⟩
      have hxm := List.mem_of_getElem? hx
      obtain ⟨A1, c1, hv1, _, _, hr1⟩ := (H.out.up HBR.out).own.shape eltT
      cases hv1
      obtain ⟨g, o, hAe, hg, hc⟩ := hr1.at_ eltT hx
      have k0 := hc 0 _ rfl
      simp only [Nat.mul_one, Nat.add_zero] at k0
      have hin := (H.out.up HBR.out).ins x hxm
      have x0 := hin.cell 0 _ rfl
      have x1 := hin.cell 1 _ rfl
      have x2 := hin.cell 2 _ rfl
      obtain ⟨w', hrun, him', hgr, hsz⟩ := (HIM.out.kept (w' := wr.drew) rfl).store (P := Tryz.prog) mapBT keyT x.id (x.f == x.t)
      have HX := Lib.hid hx
      have HIM2 := Lib.hid him'
      have HON2 := Lib.hid ((HON.out.drew).trans (Only.of_grown (S := fun q => q = w.heap.size + 1) hgr rfl))
      have hlt' : (k : Int) < L.length := by omega
      have HAE := Lib.hid hAe
      clear hx hxm hc hin hr1 hAe him' hgr hsz
      have hAe := HAE.out
      subst hAe
      go_wp2_with fail
      go_region
      go_wp2_with fail
      go_roundw
      case rel =>
        refine ⟨k + 1, _, by omega, by go_num, HIM2.out, HON2.out, fun j y hj hy => ?_⟩
        rw [lookM_put]
        by_cases e : y.id = x.id
        · have hjk : j = k := by
            have hn := HID.out
            obtain ⟨hj1, he1⟩ := List.getElem?_eq_some_iff.1 hy
            obtain ⟨hk1, he2⟩ := List.getElem?_eq_some_iff.1 HX.out
            exact (List.getElem_inj (xs := L.map OverE.id) (h₀ := by simpa using hj1) (h₁ := by simpa using hk1) hn).1 (by simp [he1, he2, e])
          subst hjk
          rw [HX.out] at hy; cases hy
          rw [if_pos rfl]
        · rw [if_neg e]
          have hjk : j ≠ k := fun e2 => by subst e2; rw [HX.out] at hy; cases hy; exact e rfl
          exact HLK.out j y (by omega) hy
      case measure => simp [intOf]; omega
    · obtain rfl : k = L.length := by omega
      have HAP := Lib.hid (apply_rem (H.out.up HBR.out) hrb.1 hrb.2.1 hrb.2.2 HP.out hl)
      clear hlt hk
      go_wp2_with fail
      refine HAP.out.mono ?_
      rintro e w2 ⟨rfl, hov, hon2⟩
      have hs2 := hon2.size
      have hff : ∀ q, q ∈ footS b (.slice A L.length cp) L → q < w.heap.size := fun q hq => H.out.lt hq
      have cM2 : w2.cell? ⟨w.heap.size + 2, 0, none⟩ = some (.map (some (w.heap.size + 1))) := (World.cell?_of_block (w := wr) (a := ⟨w.heap.size + 2, 0, none⟩) (hon2.block (w.heap.size + 2) (lt_of_cell cM) (fun e => by have := hff _ e; omega))).trans cM
      have cO2 : w2.cell? ⟨w.heap.size, 0, none⟩ = some (.pointer (some ⟨b, 0, none⟩)) := (World.cell?_of_block (w := wr) (a := ⟨w.heap.size, 0, none⟩) (hon2.block w.heap.size (lt_of_cell cO) (fun e => by have := hff _ e; omega))).trans cO
      have im2 : IM w2 (w.heap.size + 1) encB m := HIM.out.kept (hon2.block (w.heap.size + 1) HIM.out.lt (fun e => by have := hff _ e; omega))
      have hlt2 := lt_of_cell cM2
      clear cM cO
      obtain ⟨L2, hL2⟩ : ∃ L2, L2 = L.map (endsX (fun x => (backI x.f f t, backI x.t f t))) := ⟨_, rfl⟩
      rw [← hL2] at hov
      have hl2 : L2.length = L.length := by rw [hL2]; simp
      obtain ⟨w3, hw3⟩ : ∃ w3, w3 = w2.alloc (.cells #[.slice none 0 0] 32) := ⟨_, rfl⟩
      have z3 : w3.heap.size = w2.heap.size + 1 := by rw [hw3]; simp
      have b3 : Below w2.heap.size w2 w3 := by rw [hw3]; exact below1 _ _
      have h3a : w3.heap[w2.heap.size]? = some (.cells #[.slice none 0 0] 32 (0, 0)) := by rw [hw3]; exact (MapKept.heap_alloc w2 _).1
      have hov3 : OvsAt w3.drew b pr ev (.slice A L.length cp) L2 nx := hov.up b3.drew
      have hbq := H.out.blt
      have hDS : DelSt w3.drew b (w.heap.size + 1) w.heap.size (w.heap.size + 2) w2.heap.size (w2.heap.size + 1) ev m (.slice none 0 0) [] :=
        ⟨(b3.cell (p := ⟨w.heap.size, 0, none⟩) (lt_of_cell cO2)).trans cO2, (b3.cell (p := ⟨w.heap.size + 2, 0, none⟩) (lt_of_cell cM2)).trans cM2, by show w3.cell? _ = _; simp only [World.cell?, h3a]; rfl, by show w3.frozen? _ = _; simp only [World.frozen?, h3a]; rfl,
          hov3.cell 1 _ rfl, im2.kept (b3.block _ im2.lt), ROwn.nil _ _, by omega, ⟨by omega, by omega, by omega, by omega⟩, by show _ ≤ w3.heap.size; omega⟩
      obtain ⟨p, hp⟩ : ∃ p : OverE → Bool, p = fun x => goesB ((lookM m x.id).getD false) ev x.dat := ⟨_, rfl⟩
      have hvl : ∀ g, (Value.slice A L.length cp).ownBlock = some g → g < w.heap.size := fun g hg => H.out.own.lt hg
      have hft2 : ∀ k, k ∈ footS b (.slice A L.length cp) L2 ↔ k ∈ footS b (.slice A L.length cp) L := fun k => by rw [hL2, foot_map]
      have hown3 : ROwn encT 72 1 0 w3.drew (.slice A L.length cp) L2 := hov3.own
      have HD := Lib.hid (delete_any (w := w3.drew) (A := A) (L := L2) (p := p) enters_del (caps := #[.pointer (some ⟨w.heap.size, 0, none⟩), .pointer (some ⟨w.heap.size + 2, 0, none⟩), .pointer (some ⟨w2.heap.size, 0, none⟩)]) L.length cp hl2.symm hown3
        (Inv := fun pre w1 => ∃ gv, DelSt w1 b (w.heap.size + 1) w.heap.size (w.heap.size + 2) w2.heap.size (w2.heap.size + 1) ev m gv (goneL p pre) ∧ Only (fun k => (Value.slice A L.length cp).ownBlock = some k ∨ k = w2.heap.size) w3.drew w1)
        (fun pre x post w1 hsp ⟨gv, hd, ho⟩ => by
          have hxm : x ∈ L2 := by rw [hsp]; simp
          obtain ⟨y, hym, rfl⟩ : ∃ y ∈ L, endsX (fun x => (backI x.f f t, backI x.t f t)) y = x := by rw [hL2] at hxm; exact List.mem_map.1 hxm
          obtain ⟨j, hj⟩ := List.mem_iff_getElem?.1 hym
          have hlkx := HLK.out j y (List.getElem?_eq_some_iff.1 hj).1 hj
          have hxin : OverIn w1 (endsX (fun x => (backI x.f f t, backI x.t f t)) y) := (hov3.ins _ hxm).kept fun k hk => ho.block k ((hov3.ins _ hxm).lt hk) (fun e => by
            have hk2 := hff k ((hft2 k).1 (foot_x hxm hk))
            rcases e with e | e
            · exact (hov3.nb _ hxm).2 k e hk
            · omega)
          have hpx : p (endsX (fun x => (backI x.f f t, backI x.t f t)) y) = goesB (y.f == y.t) ev (endsX (fun x => (backI x.f f t, backI x.t f t)) y).dat := by rw [hp]; show goesB ((lookM m y.id).getD false) ev _ = _; rw [hlkx]; rfl
          have hgl := hff _ ((hft2 _).1 (foot_x hxm (foot_g _)))
          have hgn : (goneL p pre).length ≤ 1000000 := by have h1 := goneL_len p pre; have h2 := congrArg List.length hsp; simp at h2; omega
          refine (delC hd hxin (HS.out y hym).1 (by have := (HS.out y hym).2; show y.ps.length ≤ _; omega) (was := (y.f == y.t)) hlkx (by omega) hgn).mono ?_
          rintro e w5 ⟨rfl, gv', hd', ho'⟩
          refine ⟨by rw [hpx], ⟨gv', ?_, ho.then ho' (fun i hi hlt => ?_)⟩, fun g hg => ho'.block g ?_ ?_⟩
          · rw [goneL_snoc, hpx]; exact hd'
          · rcases hi with e | e
            · exact .inr e
            · have := hd.own.base e
              have hlt' : i < w3.heap.size := hlt
              omega
          · have := hvl g hg; have := hd.hB; omega
          · intro e
            have h1 := hvl g hg
            rcases e with e | e
            · omega
            · have := hd.own.base e; omega)
        (fun pre wa wb ⟨gv, hd, ho⟩ hon => ⟨gv, hd.kept hon.size (fun k hk _ hq => hon.block k hk (fun e => by
          have h1 := hvl k e
          have hvb := H.out.vb
          rcases hq with e2 | e2 | e2 | e2 | e2 | e2
          · omega
          · omega
          · omega
          · omega
          · exact hvb (e2 ▸ e)
          · have := hd.own.base e2; omega)), ho.trans (hon.mono fun k e => .inl e)⟩)
        ⟨_, hDS, Only.refl _ _⟩ (by omega))
      have hgone : goneL p L2 = goneI ev f t (L.map OverE.dat) := by
        unfold goneL goneI
        rw [hL2, List.filter_map, List.map_map, List.filter_map, List.map_map]
        have hfe : L.filter (p ∘ endsX (fun x => (backI x.f f t, backI x.t f t))) = L.filter (goesX ev f t ∘ OverE.dat) := List.filter_congr fun y hy => by
          obtain ⟨j, hj⟩ := List.mem_iff_getElem?.1 hy
          have hlkx := HLK.out j y (List.getElem?_eq_some_iff.1 hj).1 hj
          rw [hp]
          show goesB ((lookM m y.id).getD false) ev _ = _
          rw [hlkx]; rfl
        rw [hfe]; rfl
      have hleft : (L2.filter (fun x => !p x)).map OverE.dat = leftD ev f t (L.map OverE.dat) := by
        unfold leftD
        rw [hL2, List.filter_map, List.map_map, List.filter_map, List.map_map]
        have hfe : L.filter ((fun x => !p x) ∘ endsX (fun x => (backI x.f f t, backI x.t f t))) = L.filter ((fun x => !goesX ev f t x) ∘ OverE.dat) := List.filter_congr fun y hy => by
          obtain ⟨j, hj⟩ := List.mem_iff_getElem?.1 hy
          have hlkx := HLK.out j y (List.getElem?_eq_some_iff.1 hj).1 hj
          rw [hp]
          show (!goesB ((lookM m y.id).getD false) ev _) = _
          rw [hlkx]; rfl
        rw [hfe]; rfl
      have CO3 : ∀ y : OnW (fun k => (Value.slice A L.length cp).ownBlock = some k ∨ k = w2.heap.size) w3, y.w.cell? ⟨w.heap.size, 0, none⟩ = some (.pointer (some ⟨b, 0, none⟩)) := fun y => (World.cell?_of_block (w := w3) (a := ⟨w.heap.size, 0, none⟩) (y.on.block w.heap.size (by omega) (fun e => by
        rcases e with e | e
        · have := hvl _ e; omega
        · omega))).trans hDS.co
      have C23 : ∀ y : OnW (fun k => (Value.slice A L.length cp).ownBlock = some k ∨ k = w2.heap.size) w3, y.w.cell? ⟨b, 2, none⟩ = some (.slice A L.length cp) := fun y => (World.cell?_of_block (w := w3) (a := ⟨b, 2, none⟩) (y.on.block b (by omega) (fun e => by
        rcases e with e | e
        · exact H.out.vb e
        · omega))).trans (hov3.cell 2 _ rfl)
      have HOV3 := Lib.hid hov3
      have HGO := Lib.hid hgone
      have HLE := Lib.hid hleft
      have HW3 := Lib.hid hw3
      have HFT := Lib.hid hft2
      have HONA := Lib.hid (((Only.of_below HBR.out).trans hon2).trans (Only.of_below (S := (· ∈ footS b (.slice A L.length cp) L)) b3))
      clear hov hov3 hDS hgone hleft hown3 b3 h3a im2 cM2 cO2 hon2 hp hw3 hft2 hL2 hff
      go_wp2_with fail
      rw [← HW3.out]
      refine wp_region_mixO (fun k => (Value.slice A L.length cp).ownBlock = some k ∨ k = w2.heap.size) 9 (.one [0, 1, 2, 3, 4] 5 (.one [] 6 (.done [7, 8]))) (by kernel_rfl) (fun c d v a w h => by cases d <;> exact h) (by kernel_rfl) ?_
      simp only [wpMixT, pk_nil, pk_cons, pushAt_zero, pushAt_succ, List.drop_succ_cons, List.drop_zero]
      repeat (go_big_quiet_step (fail))
      refine wpQuiet_nil ?_
      clear CO3 C23
      go_wp2_with fail
      refine thenQ_normal ⟨⟨⟨_, (Only.refl _ w3).drew⟩, rfl⟩, ?_⟩
      refine wpQuiet_nil ?_
      go_wp2_with fail
      refine HD.out.mono ?_
      rintro e w4 ⟨v', rfl, hown4, ⟨gv, hd4, ho4⟩, hve⟩
      obtain ⟨A4, c4, hv4, _, _, _⟩ := hown4.shape eltT
      have hw4k : ∀ k ∈ footS b (.slice A L.length cp) L2, (Value.slice A L.length cp).ownBlock ≠ some k → w4.heap[k]? = w3.drew.heap[k]? := fun k hk hne => ho4.block k (HOV3.out.lt hk) (fun e => by
        rcases e with e | e
        · exact hne e
        · have := H.out.lt ((HFT.out k).1 hk); omega)
      have hsub := HOV3.out.sub' (List.filter_sublist (p := fun x => !p x)) hown4 hve hw4k
      have hbk : w4.heap[b]? = w3.drew.heap[b]? := hw4k b foot_b H.out.vb
      have d2 := (World.cell?_of_block (w := w3.drew) (a := ⟨b, 2, none⟩) hbk).trans (HOV3.out.cell 2 _ rfl)
      have z2 := (World.frozen?_of_block (w := w3.drew) (a := ⟨b, 2, none⟩) hbk).trans (HOV3.out.fz 2)
      have cg := hd4.cg
      have hgb : gv.ownBlock ≠ some b := fun e => by have := hd4.own.base e; omega
      have howng : ROwn encI 3 1 w.heap.size (w4.setCell ⟨b, 2, none⟩ v') gv (goneI ev f t (L.map OverE.dat)) := by
        have h1 := hd4.own
        rw [HGO.out] at h1
        exact (h1.low (by omega)).kept fun g hg => Below.heap_setCell _ _ _ _ (fun e => hgb (by rw [← show g = b from e]; exact hg))
      have hfo : ∀ k ∈ footS b v' (L2.filter (fun x => !p x)), k ∈ footS b (.slice A L.length cp) L := fun k hk => (HFT.out k).1 (foot_sub (List.filter_sublist (p := fun x => !p x)) hve k hk)
      have hfin : Only (· ∈ footS b (.slice A L.length cp) L) w (w4.setCell ⟨b, 2, none⟩ v') := ((HONA.out.drew).then ho4 (fun i hi hlt => by
        rcases hi with e | e
        · exact foot_v e
        · omega)).setCell (p := ⟨b, 2, none⟩) foot_b _
      have HSUB := Lib.hid hsub
      have HOG := Lib.hid howng
      have HFO := Lib.hid hfo
      have HFIN := Lib.hid hfin
      have HON4 := Lib.hid ((Only.refl (fun k => (Value.slice A L.length cp).ownBlock = some k ∨ k = w2.heap.size) w3).drew.trans ho4)
      generalize (L2.filter (fun x => !p x)).length = L4 at hv4
      clear hsub howng hfo hfin hown4 hd4 ho4 hve hw4k hbk hgb
      subst hv4
      go_wp2_with fail
      refine thenQ_normal ⟨⟨⟨_, HON4.out⟩, rfl⟩, ?_⟩
      repeat (go_big_quiet_step (fail))
      refine wpQuiet_nil ?_
      have hqb : w2.heap.size ≠ b := by omega
      go_wp2_with fail
      go_ret2
      exact ⟨gv, _, _, rfl, HOG.out, HSUB.out, HLE.out, HFIN.out, fun k hk => .inl (HFO.out k hk)⟩
theorem odel (h : OvsAt w b pr ev v L nx) (f t : Int) (hp : ∀ x ∈ L, 1 ≤ x.f ∧ x.f ≤ 1099511627776 ∧ 1 ≤ x.t ∧ x.t ≤ 1099511627776) (hs : ∀ x ∈ L, SortedP x.ps ∧ x.ps.length ≤ 64) (hid : (L.map OverE.id).Nodup) (hl : L.length ≤ 1000000) :
    Calls Tryz.prog 31 #[.pointer (some ⟨b, 0, none⟩), .int .i64 f, .int .i64 t] w (OPostS w b pr ev v L (delI ev f t (L.map OverE.dat)) (delE f t) (delD ev f t (L.map OverE.dat)) nx) := by
  unfold delI delE delD
  cases hr : rightI f t with
  | false => exact odel_bad h f t hr
  | true => exact odel_ok h f t hr hp hs hid hl
end
end Go.Proofs.YthjkdeocdhdkaaaGreat
