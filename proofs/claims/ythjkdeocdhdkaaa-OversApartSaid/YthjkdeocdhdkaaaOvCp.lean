/- Overlays: Copy. -/
import Derived.Test.YthjkdeocdhdkaaaOvAk
namespace Go.Proofs.Ythjkdeocdhdkaaa
open Go.RowKit
set_option linter.unusedVariables false
set_option linter.unusedSimpArgs false
section
variable {w w' W : World} {x y : OverE} {D : List OverD} {L L' M : List OverE} {b : Nat} {pr ev nx : Int} {v v' : Value} {A : Option Addr} {S : Nat → Prop}
/-- The set with one more overlay, whose blocks are new. -/
theorem OvsAt.snoc (h : OvsAt w b pr ev v L nx) (hy : OverIn w' y) (hyx : ∀ k, y.pv.ownBlock = some k → k ≠ y.g) (hyf : ∀ k ∈ y.foot, w.heap.size ≤ k) (hown : ROwn encT 67 1 0 w' v' (L ++ [y]))
    (ho : Only (fun g => v.ownBlock = some g) w w') (hv : ∀ k, v'.ownBlock = some k → v.ownBlock = some k ∨ (w.heap.size ≤ k ∧ k ∉ y.foot)) :
    OvsAt (w'.setCell ⟨b, 2, none⟩ v') b pr ev v' (L ++ [y]) nx := by
  have hlt := h.blt
  have hb0 : w'.heap[b]? = some (.cells #[.int .i64 pr, .int .i64 ev, v, .int .i64 nx, .bool true] 65 (0, 0)) := (ho.block b hlt h.vb).trans h.blk
  have h1 := heap_setCell_same w' b 2 _ _ v' hb0
  have hk : ∀ j, j ≠ b → (w'.setCell ⟨b, 2, none⟩ v').heap[j]? = w'.heap[j]? := fun j hj => Below.heap_setCell _ _ _ _ hj
  have hvb : v'.ownBlock ≠ some b := fun e => by
    rcases hv b e with h3 | h3
    · exact h.vb h3
    · omega
  refine ⟨h1, hown.kept fun g hg => hk g (fun e => hvb (by rw [← e]; exact hg)), fun x hx => ?_, fun x hx => ?_, ?_, fun x hx => ?_, hvb⟩
  · rcases List.mem_append.1 hx with hx | hx
    · exact (h.ins x hx).kept fun k hk' => (hk k (fun e => (h.nb x hx).1 (e ▸ hk'))).trans (ho.block k ((h.ins x hx).lt hk') (fun e => (h.nb x hx).2 k e hk'))
    · obtain rfl : x = y := by simpa using hx
      exact hy.kept fun k hk' => hk k (fun e => by have := hyf k hk'; omega)
  · rcases List.mem_append.1 hx with hx | hx
    · exact h.fx x hx
    · obtain rfl : x = y := by simpa using hx
      exact hyx
  · refine List.pairwise_append.2 ⟨h.pw, List.pairwise_singleton _ _, fun x hx z hz k hkx hkz => ?_⟩
    obtain rfl : z = y := by simpa using hz
    have := (h.ins x hx).lt hkx
    have := hyf k hkz
    omega
  · rcases List.mem_append.1 hx with hx | hx
    · refine ⟨(h.nb x hx).1, fun k e => ?_⟩
      rcases hv k e with h3 | h3
      · exact (h.nb x hx).2 k h3
      · intro hkx; have := (h.ins x hx).lt hkx; omega
    · obtain rfl : x = y := by simpa using hx
      refine ⟨fun hbx => by have := hyf b hbx; omega, fun k e hkx => ?_⟩
      rcases hv k e with h3 | h3
      · have := h.own.lt h3; have := hyf k hkx; omega
      · exact h3.2 hkx
theorem foot_snoc {B : Nat} (h : ∀ k ∈ footS b v L, B ≤ k) (hy : ∀ k ∈ y.foot, B ≤ k) (hv : ∀ k, v'.ownBlock = some k → v.ownBlock = some k ∨ B ≤ k) : ∀ k ∈ footS b v' (L ++ [y]), B ≤ k := by
  intro k hk
  rcases foot_cases hk with rfl | h1 | ⟨x, hx, h1⟩
  · exact h _ foot_b
  · rcases hv k h1 with h2 | h2
    · exact h k (foot_v h2)
    · exact h2
  · rcases List.mem_append.1 hx with hx | hx
    · exact h k (foot_x hx h1)
    · obtain rfl : x = y := by simpa using hx
      exact hy k h1
def CpP (w : World) (pr ev : Int) (D : List OverD) (nx : Int) (e : Ending) (w' : World) : Prop := ∃ b, e = .returned (.pointer (some ⟨b, 0, none⟩)) ∧ OSt w' b pr ev D nx (fun k => w.heap.size ≤ k) ∧ Below w.heap.size w w'
/-- The copy so far. -/
def CpR (w : World) (b : Nat) (pr ev nx : Int) (D : List OverD) (wz : World) : Prop := ∃ v L, OvsAt wz b pr ev v L nx ∧ L.map OverE.dat = D ∧ (∀ k ∈ footS b v L, w.heap.size ≤ k) ∧ Below w.heap.size w wz
set_option maxRecDepth 100000 in
set_option maxHeartbeats 2000000 in
theorem ocopy (h : OvsAt w b pr ev v L nx) (hp : ∀ x ∈ L, x.ps.length ≤ 1000000) (hl : L.length ≤ 1000000) : Calls Try.prog 30 #[.pointer (some ⟨b, 0, none⟩)] w (CpP w pr ev (L.map OverE.dat) nx) := by
  obtain ⟨A, cp, rfl, hA1, hA2, hAs⟩ := h.own.shape eltT
  have HV := Lib.hid (ovalid h)
  have c0 := h.cell 0 _ rfl
  have c1 := h.cell 1 _ rfl
  have c2 := h.cell 2 _ rfl
  have c3 := h.cell 3 _ rfl
  have c4 := h.cell 4 _ rfl
  have hbl := h.blt
  have H := Lib.hid h
  have HAs := Lib.hid hAs
  have HPL := Lib.hid hp
  clear h hAs hp
  go_enter Try.func30, Try.ntmps30
  go_wp2_with fail
  refine HV.out.mono ?_
  rintro e w0 ⟨rfl, rfl⟩
  go_wp2_with fail
  clear c0 c1 c2 c3 c4
  go_loopw [19] (fun vi wz => ∃ k : Nat, k ≤ L.length ∧ vi = .int .i64 k ∧ CpR w w.heap.size pr ev nx ((L.map OverE.dat).take k) wz) (fun vi _ => L.length - (intOf vi).toNat)
  case atStart =>
    refine ⟨0, by omega, rfl, .slice none 0 0, [], ⟨(MapKept.heap_alloc w _).1, ROwn.nil _ _, by simp, by simp, List.Pairwise.nil, by simp, by simp [Value.ownBlock]⟩, rfl, fun k hk => ?_, below1 w _⟩
    rcases foot_cases hk with rfl | h1 | ⟨x, hx, _⟩
    · exact Nat.le_refl _
    · cases h1
    · simp at hx
  case round =>
    obtain ⟨k, hk, rfl, v, L', h', hD, hS, hbel⟩ := hrel
    obtain ⟨wz, rfl⟩ : ∃ x, x = wr := ⟨_, rfl⟩
    have hLl : L'.length = k := by have := congrArg List.length hD; simp at this; omega
    by_cases hlt : k < L.length
    · obtain ⟨x, hx⟩ : ∃ x, L[k]? = some x := ⟨_, List.getElem?_eq_getElem hlt⟩
      obtain ⟨g, o, hAe, hg, hc⟩ := (HAs.out.up hbel).at_ eltT hx
      have k0 := hc 0 _ rfl
      simp only [Nat.mul_one, Nat.add_zero] at k0
      have hxm := List.mem_of_getElem? hx
      have HCP := Lib.hid (copied_any ((H.out.ins x hxm).up hbel) (HPL.out x hxm))
      have hdk : (L.map OverE.dat).take (k + 1) = (L.map OverE.dat).take k ++ [x.dat] := by
        rw [List.take_add_one, List.getElem?_map, hx]; rfl
      obtain ⟨Av, cv, hv, _, _, _⟩ := h'.own.shape eltT
      rw [hLl] at hv
      have hlt' : (k : Int) < L.length := by omega
      have hwz := hbel.size
      have HH := Lib.hid h'
      have HD := Lib.hid hD
      have HS := Lib.hid hS
      have HB := Lib.hid hbel
      have HDK := Lib.hid hdk
      have HAE := Lib.hid hAe
      obtain ⟨id, f, t, fr, re, xA, xc, xps, xg⟩ := x
      clear hc hx hxm hdk h' hD hS hbel hAe
      subst hv
      have hAe := HAE.out
      subst hAe
      go_wp2_with fail
      refine HCP.out.mono ?_
      rintro e w1 ⟨A1, c1, rfl, hown1, hb1⟩
      obtain ⟨W1, hW1⟩ : ∃ W1, W1 = w1.alloc (.cells #[.int .i64 id, .int .i64 f, .int .i64 t, .bool fr, .bool re, .slice A1 xps.length c1] 56) := ⟨_, rfl⟩
      have ha1 : Below w1.heap.size w1 W1 := by rw [hW1]; exact below1 _ _
      have hz1 : W1.heap.size = w1.heap.size + 1 := by rw [hW1]; simp
      have hm1 : W1.heap[w1.heap.size]? = some (.cells #[.int .i64 id, .int .i64 f, .int .i64 t, .bool fr, .bool re, .slice A1 xps.length c1] 56 (0, 0)) := by rw [hW1]; exact (MapKept.heap_alloc _ _).1
      have hb1W := up2 hb1 ha1
      have hs1 := hb1.size
      have h1 := HH.out.up hb1W
      obtain ⟨v2, w2, happ, hown2, hbel2, hon2, hv2⟩ := append_elem eltT h1.own (Nat.zero_le _) ⟨id, f, t, fr, re, A1, c1, xps, w1.heap.size⟩ (by omega) (by omega)
      obtain ⟨A2, c2, hv2', _, _, _⟩ := hown2.shape eltT
      generalize (L' ++ [(⟨id, f, t, fr, re, A1, c1, xps, w1.heap.size⟩ : OverE)]).length = n2 at hv2'
      have e2 := h1.cell 2 _ rfl
      have z2 := h1.fz 2
      have h1' := HH.out.up hb1
      have e2' := h1'.cell 2 _ rfl
      have z2' := h1'.fz 2
      have hbb : w.heap.size < w1.heap.size := h1'.blt
      have hfoot : ∀ q, q ∈ (OverE.foot ⟨id, f, t, fr, re, A1, c1, xps, w1.heap.size⟩) → wz.heap.size ≤ q ∧ q < W1.heap.size := fun q hq => by
        unfold OverE.foot at hq
        rcases List.mem_cons.1 hq with rfl | hq
        · exact ⟨hs1, by show w1.heap.size < _; omega⟩
        · have h5 := hown1.base (mem_ownB.1 hq); have h6 := hown1.lt (mem_ownB.1 hq); omega
      have hvb : ∀ q, (Value.slice Av k cv).ownBlock = some q → q < wz.heap.size := fun q hq => HH.out.own.lt hq
      have hall : Only (fun q => (Value.slice Av k cv).ownBlock = some q) wz w2 := (Only.of_below hb1W).trans hon2
      have hyin : OverIn w2 ⟨id, f, t, fr, re, A1, c1, xps, w1.heap.size⟩ := by
        refine ⟨(hon2.block w1.heap.size (by omega) (fun e => by have := hvb _ e; omega)).trans hm1, ?_⟩
        exact ((hown1.up ha1).kept fun q hq => hon2.block q (by have := hown1.lt hq; omega) (fun e => by have h5 := hvb _ e; have h6 := hown1.base hq; omega)).low (Nat.zero_le _)
      have hsn := HH.out.snoc (y := ⟨id, f, t, fr, re, A1, c1, xps, w1.heap.size⟩) hyin (fun q hq (e : q = w1.heap.size) => by have := hown1.lt hq; omega) (fun q hq => (hfoot q hq).1) hown2 hall (fun q hq => by
        rcases hv2 with h5 | ⟨gq, h5, h6⟩
        · exact .inl (h5 ▸ hq)
        · rw [h5] at hq; cases hq
          exact .inr ⟨by omega, fun hf => by have := (hfoot _ hf).2; omega⟩)
      have hft := foot_snoc (B := w.heap.size) (v' := v2) HS.out (y := ⟨id, f, t, fr, re, A1, c1, xps, w1.heap.size⟩) (fun q hq => by have := (hfoot q hq).1; omega) (fun q hq => by
        rcases hv2 with h5 | ⟨gq, h5, h6⟩
        · exact .inl (h5 ▸ hq)
        · rw [h5] at hq; cases hq; exact .inr (by omega))
      have hbw2 : Below w.heap.size w (w2.setCell ⟨w.heap.size, 2, none⟩ v2) := (HB.out.trans (hall.below hwz fun q hq => HS.out q (foot_v hq))).setCell (p := ⟨w.heap.size, 2, none⟩) (Nat.le_refl _) _
      have d2 : w2.cell? ⟨w.heap.size, 2, none⟩ = some (.slice Av k cv) := (World.cell?_of_block (w := W1) (a := ⟨w.heap.size, 2, none⟩) (hon2.block w.heap.size (by have := HH.out.blt; omega) (fun e => HH.out.vb e))).trans e2
      have f2 : w2.frozen? ⟨w.heap.size, 2, none⟩ = false := (World.frozen?_of_block (w := W1) (a := ⟨w.heap.size, 2, none⟩) (hon2.block w.heap.size (by have := HH.out.blt; omega) (fun e => HH.out.vb e))).trans z2
      have HSN := Lib.hid hsn
      have HFT := Lib.hid hft
      have HBW := Lib.hid hbw2
      have happ' : ∀ ty, (Builtin.append_ #[63, 63] ty #[.slice Av k cv, .slice (some ⟨w1.heap.size + 1, 0, none⟩) 1 1]).run Try.prog ((w1.alloc (.cells #[.int .i64 id, .int .i64 f, .int .i64 t, .bool fr, .bool re, .slice A1 xps.length c1] 56)).alloc (.cells #[.pointer (some ⟨w1.heap.size, 0, none⟩)] 67)) = .ok v2 w2 := fun ty => by
        have h := happ ty
        rw [hz1, hW1] at h
        exact h
      have HP := Lib.hid happ'
      have HWW := Lib.hid hW1
      clear hsn hft hbw2 happ hW1 hyin hall hvb hfoot hown2 hbel2 hon2 hv2 h1 h1' hown1 hb1 ha1 hm1 hb1W z2 e2 happ' hz1 HWW W1
      subst hv2'
      go_wp2_with (at_builtin; refine wpList_app_run rfl _ _ _ rfl rfl rfl HP.out ?_)
      go_roundw
      case rel => exact ⟨k + 1, by omega, by go_num, _, _, HSN.out, by rw [List.map_append, HD.out, HDK.out]; rfl, HFT.out, HBW.out⟩
      case measure => simp [intOf]; omega
    · obtain rfl : k = L.length := by omega
      rw [List.take_of_length_le (by simp)] at hD
      have HH := Lib.hid h'
      have HD := Lib.hid hD
      have HS := Lib.hid hS
      have HB := Lib.hid hbel
      clear h' hD hS hbel hlt
      go_wp2_with fail
      go_ret
      exact ⟨_, rfl, ⟨v, L', HH.out, HD.out, HS.out⟩, HB.out⟩
theorem s_copy (h : OSt w b pr ev D nx S) (hw : WfD D nx) : Calls Try.prog 30 #[.pointer (some ⟨b, 0, none⟩)] w (CpP w pr ev D nx) := by
  obtain ⟨v, L, h1, rfl, h3⟩ := h
  obtain ⟨g1, g2, g3, g4⟩ := dat_good rfl hw
  exact ocopy h1 (fun x hx => by have := (g1 x hx).2; omega) (by omega)
end
end Go.Proofs.Ythjkdeocdhdkaaa
