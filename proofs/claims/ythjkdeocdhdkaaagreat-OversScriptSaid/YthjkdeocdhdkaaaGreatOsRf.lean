import Derived.Test.YthjkdeocdhdkaaaGreatOvVl
import Derived.Test.YthjkdeocdhdkaaaGreatOvAk
import Derived.Test.YthjkdeocdhdkaaaGreatOsRd
/- Two words that are one are equal. -/
namespace Go.Proofs.YthjkdeocdhdkaaaGreat
open Go.RowKit
set_option linter.unusedVariables false
theorem eqW1 (a b : Int) (w : World) : (binOp .eql 29 (.agg #[.int .i64 a, .int .i64 b]) (.agg #[.int .i64 a, .int .i64 b])).run Tryz.prog w = .ok (.bool true) w := by
  have u3 := Tryz.underlying3
  have hS : Tryz.prog.underlying 29 = some (.struct (Tryz.prog.fieldsOf 29)) := by kernel_rfl
  have hp : Tryz.prog.stoodInHeld 29 = false := by kernel_rfl
  rw [run_eql_struct, show (10000 : Nat) = 9999 + 1 from rfl, run_equalIn_agg w 9999 29 _ _ hS hp]
  simp only [Program.fieldsOf, Tryz.underlying29]
  go_simp
end Go.Proofs.YthjkdeocdhdkaaaGreat
/- Overlays: Copy. -/
namespace Go.Proofs.YthjkdeocdhdkaaaGreat
open Go.RowKit
set_option linter.unusedVariables false
set_option linter.unusedSimpArgs false
section
variable {w w' W : World} {x y : OverE} {D : List OverD} {L L' M : List OverE} {b : Nat} {pr ev nx : Int} {v v' : Value} {A : Option Addr} {S : Nat → Prop}
/-- The set with one more overlay, whose blocks are new. -/
theorem OvsAt.snoc (h : OvsAt w b pr ev v L nx) (hy : OverIn w' y) (hyx : ∀ k, y.pv.ownBlock = some k → k ≠ y.g) (hyf : ∀ k ∈ y.foot, w.heap.size ≤ k) (hown : ROwn encT 72 1 0 w' v' (L ++ [y]))
    (ho : Only (fun g => v.ownBlock = some g) w w') (hv : ∀ k, v'.ownBlock = some k → v.ownBlock = some k ∨ (w.heap.size ≤ k ∧ k ∉ y.foot)) :
    OvsAt (w'.setCell ⟨b, 2, none⟩ v') b pr ev v' (L ++ [y]) nx := by
  have hlt := h.blt
  have hb0 : w'.heap[b]? = some (.cells #[.int .i64 pr, .int .i64 ev, v, .int .i64 nx, .bool true] 63 (0, 0)) := (ho.block b hlt h.vb).trans h.blk
  have h1 := heap_setCell_same w' b 2 _ _ v' hb0
  have hk : ∀ j, j ≠ b → (w'.setCell ⟨b, 2, none⟩ v').heap[j]? = w'.heap[j]? := fun j hj => Below.heap_setCell _ _ _ _ hj
  have hvb : v'.ownBlock ≠ some b := fun e => by
    rcases hv b e with h3 | h3
    · exact h.vb h3
    · omega
  refine ⟨h1, hown.kept fun g hg => hk g (fun e => hvb (by rw [← e]; exact hg)), fun x hx => ?_, fun x hx => ?_, ?_, fun x hx => ?_, hvb⟩
  · rcases List.mem_append.1 hx with hx | hx
    · exact (h.ins x hx).kept fun k hk' => (hk k (fun e => (h.nb x hx).1 (e ▸ hk'))).trans (ho.block k ((h.ins x hx).lt hk') (fun e => (h.nb x hx).2 k e hk'))
    · obtain rfl : x = y := by simpa using hx
      exact hy.kept fun k hk' => hk k (fun e => by have := hyf k hk'; omega)
  · rcases List.mem_append.1 hx with hx | hx
    · exact h.fx x hx
    · obtain rfl : x = y := by simpa using hx
      exact hyx
  · refine List.pairwise_append.2 ⟨h.pw, List.pairwise_singleton _ _, fun x hx z hz k hkx hkz => ?_⟩
    obtain rfl : z = y := by simpa using hz
    have := (h.ins x hx).lt hkx
    have := hyf k hkz
    omega
  · rcases List.mem_append.1 hx with hx | hx
    · refine ⟨(h.nb x hx).1, fun k e => ?_⟩
      rcases hv k e with h3 | h3
      · exact (h.nb x hx).2 k h3
      · intro hkx; have := (h.ins x hx).lt hkx; omega
    · obtain rfl : x = y := by simpa using hx
      refine ⟨fun hbx => by have := hyf b hbx; omega, fun k e hkx => ?_⟩
      rcases hv k e with h3 | h3
      · have := h.own.lt h3; have := hyf k hkx; omega
      · exact h3.2 hkx
theorem foot_snoc {B : Nat} (h : ∀ k ∈ footS b v L, B ≤ k) (hy : ∀ k ∈ y.foot, B ≤ k) (hv : ∀ k, v'.ownBlock = some k → v.ownBlock = some k ∨ B ≤ k) : ∀ k ∈ footS b v' (L ++ [y]), B ≤ k := by
  intro k hk
  rcases foot_cases hk with rfl | h1 | ⟨x, hx, h1⟩
  · exact h _ foot_b
  · rcases hv k h1 with h2 | h2
    · exact h k (foot_v h2)
    · exact h2
  · rcases List.mem_append.1 hx with hx | hx
    · exact h k (foot_x hx h1)
    · obtain rfl : x = y := by simpa using hx
      exact hy k h1
def CpP (w : World) (pr ev : Int) (D : List OverD) (nx : Int) (e : Ending) (w' : World) : Prop := ∃ b, e = .returned (.pointer (some ⟨b, 0, none⟩)) ∧ OSt w' b pr ev D nx (fun k => w.heap.size ≤ k) ∧ Below w.heap.size w w'
/-- The copy so far. -/
def CpR (w : World) (b : Nat) (pr ev nx : Int) (D : List OverD) (wz : World) : Prop := ∃ v L, OvsAt wz b pr ev v L nx ∧ L.map OverE.dat = D ∧ (∀ k ∈ footS b v L, w.heap.size ≤ k) ∧ Below w.heap.size w wz
set_option maxRecDepth 100000 in
set_option maxHeartbeats 2000000 in
theorem ocopy (h : OvsAt w b pr ev v L nx) (hp : ∀ x ∈ L, x.ps.length ≤ 1000000) (hl : L.length ≤ 1000000) : Calls Tryz.prog 26 #[.pointer (some ⟨b, 0, none⟩)] w (CpP w pr ev (L.map OverE.dat) nx) := by
  obtain ⟨A, cp, rfl, hA1, hA2, hAs⟩ := h.own.shape eltT
  have HV := Lib.hid (ovalid h)
  have c0 := h.cell 0 _ rfl
  have c1 := h.cell 1 _ rfl
  have c2 := h.cell 2 _ rfl
  have c3 := h.cell 3 _ rfl
  have c4 := h.cell 4 _ rfl
  have hbl := h.blt
  have H := Lib.hid h
  have HAs := Lib.hid hAs
  have HPL := Lib.hid hp
  clear h hAs hp
  go_enter Tryz.func26, Tryz.ntmps26
  go_wp2_with fail
  refine HV.out.mono ?_
  rintro e w0 ⟨rfl, rfl⟩
  go_wp2_with fail
  clear c0 c1 c2 c3 c4
  go_loopw [19] (fun vi wz => ∃ k : Nat, k ≤ L.length ∧ vi = .int .i64 k ∧ CpR w w.heap.size pr ev nx ((L.map OverE.dat).take k) wz) (fun vi _ => L.length - (intOf vi).toNat)
  case atStart =>
    refine ⟨0, by omega, rfl, .slice none 0 0, [], ⟨(MapKept.heap_alloc w _).1, ROwn.nil _ _, by simp, by simp, List.Pairwise.nil, by simp, by simp [Value.ownBlock]⟩, rfl, fun k hk => ?_, below1 w _⟩
    rcases foot_cases hk with rfl | h1 | ⟨x, hx, _⟩
    · exact Nat.le_refl _
    · cases h1
    · simp at hx
  case round =>
    obtain ⟨k, hk, rfl, v, L', h', hD, hS, hbel⟩ := hrel
    obtain ⟨wz, rfl⟩ : ∃ x, x = wr := ⟨_, rfl⟩
    have hLl : L'.length = k := by have := congrArg List.length hD; simp at this; omega
    by_cases hlt : k < L.length
    · obtain ⟨x, hx⟩ : ∃ x, L[k]? = some x := ⟨_, List.getElem?_eq_getElem hlt⟩
      obtain ⟨g, o, hAe, hg, hc⟩ := (HAs.out.up hbel).at_ eltT hx
      have k0 := hc 0 _ rfl
      simp only [Nat.mul_one, Nat.add_zero] at k0
      have hxm := List.mem_of_getElem? hx
      have HCP := Lib.hid (copied_any ((H.out.ins x hxm).up hbel) (HPL.out x hxm))
      have hdk : (L.map OverE.dat).take (k + 1) = (L.map OverE.dat).take k ++ [x.dat] := by
        rw [List.take_add_one, List.getElem?_map, hx]; rfl
      obtain ⟨Av, cv, hv, _, _, _⟩ := h'.own.shape eltT
      rw [hLl] at hv
      have hlt' : (k : Int) < L.length := by omega
      have hwz := hbel.size
      have HH := Lib.hid h'
      have HD := Lib.hid hD
      have HS := Lib.hid hS
      have HB := Lib.hid hbel
      have HDK := Lib.hid hdk
      have HAE := Lib.hid hAe
      obtain ⟨id, f, t, fr, re, xA, xc, xps, xg⟩ := x
      clear hc hx hxm hdk h' hD hS hbel hAe
      subst hv
      have hAe := HAE.out
      subst hAe
      go_wp2_with fail
      refine HCP.out.mono ?_
      rintro e w1 ⟨A1, c1, rfl, hown1, hb1⟩
      obtain ⟨W1, hW1⟩ : ∃ W1, W1 = w1.alloc (.cells #[.int .i64 id, .int .i64 f, .int .i64 t, .bool fr, .bool re, .slice A1 xps.length c1] 69) := ⟨_, rfl⟩
      have ha1 : Below w1.heap.size w1 W1 := by rw [hW1]; exact below1 _ _
      have hz1 : W1.heap.size = w1.heap.size + 1 := by rw [hW1]; simp
      have hm1 : W1.heap[w1.heap.size]? = some (.cells #[.int .i64 id, .int .i64 f, .int .i64 t, .bool fr, .bool re, .slice A1 xps.length c1] 69 (0, 0)) := by rw [hW1]; exact (MapKept.heap_alloc _ _).1
      have hb1W := up2 hb1 ha1
      have hs1 := hb1.size
      have h1 := HH.out.up hb1W
      obtain ⟨v2, w2, happ, hown2, hbel2, hon2, hv2⟩ := append_elem eltT h1.own (Nat.zero_le _) ⟨id, f, t, fr, re, A1, c1, xps, w1.heap.size⟩ (by omega) (by omega)
      obtain ⟨A2, c2, hv2', _, _, _⟩ := hown2.shape eltT
      generalize (L' ++ [(⟨id, f, t, fr, re, A1, c1, xps, w1.heap.size⟩ : OverE)]).length = n2 at hv2'
      have e2 := h1.cell 2 _ rfl
      have z2 := h1.fz 2
      have h1' := HH.out.up hb1
      have e2' := h1'.cell 2 _ rfl
      have z2' := h1'.fz 2
      have hbb : w.heap.size < w1.heap.size := h1'.blt
      have hfoot : ∀ q, q ∈ (OverE.foot ⟨id, f, t, fr, re, A1, c1, xps, w1.heap.size⟩) → wz.heap.size ≤ q ∧ q < W1.heap.size := fun q hq => by
        unfold OverE.foot at hq
        rcases List.mem_cons.1 hq with rfl | hq
        · exact ⟨hs1, by show w1.heap.size < _; omega⟩
        · have h5 := hown1.base (mem_ownB.1 hq); have h6 := hown1.lt (mem_ownB.1 hq); omega
      have hvb : ∀ q, (Value.slice Av k cv).ownBlock = some q → q < wz.heap.size := fun q hq => HH.out.own.lt hq
      have hall : Only (fun q => (Value.slice Av k cv).ownBlock = some q) wz w2 := (Only.of_below hb1W).trans hon2
      have hyin : OverIn w2 ⟨id, f, t, fr, re, A1, c1, xps, w1.heap.size⟩ := by
        refine ⟨(hon2.block w1.heap.size (by omega) (fun e => by have := hvb _ e; omega)).trans hm1, ?_⟩
        exact ((hown1.up ha1).kept fun q hq => hon2.block q (by have := hown1.lt hq; omega) (fun e => by have h5 := hvb _ e; have h6 := hown1.base hq; omega)).low (Nat.zero_le _)
      have hsn := HH.out.snoc (y := ⟨id, f, t, fr, re, A1, c1, xps, w1.heap.size⟩) hyin (fun q hq (e : q = w1.heap.size) => by have := hown1.lt hq; omega) (fun q hq => (hfoot q hq).1) hown2 hall (fun q hq => by
        rcases hv2 with h5 | ⟨gq, h5, h6⟩
        · exact .inl (h5 ▸ hq)
        · rw [h5] at hq; cases hq
          exact .inr ⟨by omega, fun hf => by have := (hfoot _ hf).2; omega⟩)
      have hft := foot_snoc (B := w.heap.size) (v' := v2) HS.out (y := ⟨id, f, t, fr, re, A1, c1, xps, w1.heap.size⟩) (fun q hq => by have := (hfoot q hq).1; omega) (fun q hq => by
        rcases hv2 with h5 | ⟨gq, h5, h6⟩
        · exact .inl (h5 ▸ hq)
        · rw [h5] at hq; cases hq; exact .inr (by omega))
      have hbw2 : Below w.heap.size w (w2.setCell ⟨w.heap.size, 2, none⟩ v2) := (HB.out.trans (hall.below hwz fun q hq => HS.out q (foot_v hq))).setCell (p := ⟨w.heap.size, 2, none⟩) (Nat.le_refl _) _
      have d2 : w2.cell? ⟨w.heap.size, 2, none⟩ = some (.slice Av k cv) := (World.cell?_of_block (w := W1) (a := ⟨w.heap.size, 2, none⟩) (hon2.block w.heap.size (by have := HH.out.blt; omega) (fun e => HH.out.vb e))).trans e2
      have f2 : w2.frozen? ⟨w.heap.size, 2, none⟩ = false := (World.frozen?_of_block (w := W1) (a := ⟨w.heap.size, 2, none⟩) (hon2.block w.heap.size (by have := HH.out.blt; omega) (fun e => HH.out.vb e))).trans z2
      have HSN := Lib.hid hsn
      have HFT := Lib.hid hft
      have HBW := Lib.hid hbw2
      have happ' : ∀ ty, (Builtin.append_ #[61, 61] ty #[.slice Av k cv, .slice (some ⟨w1.heap.size + 1, 0, none⟩) 1 1]).run Tryz.prog ((w1.alloc (.cells #[.int .i64 id, .int .i64 f, .int .i64 t, .bool fr, .bool re, .slice A1 xps.length c1] 69)).alloc (.cells #[.pointer (some ⟨w1.heap.size, 0, none⟩)] 72)) = .ok v2 w2 := fun ty => by
        have h := happ ty
        rw [hz1, hW1] at h
        exact h
      have HP := Lib.hid happ'
      have HWW := Lib.hid hW1
      clear hsn hft hbw2 happ hW1 hyin hall hvb hfoot hown2 hbel2 hon2 hv2 h1 h1' hown1 hb1 ha1 hm1 hb1W z2 e2 happ' hz1 HWW W1
      subst hv2'
      go_wp2_with (at_builtin; refine wpList_app_run rfl _ _ _ rfl rfl rfl HP.out ?_)
      go_roundw
      case rel => exact ⟨k + 1, by omega, by go_num, _, _, HSN.out, by rw [List.map_append, HD.out, HDK.out]; rfl, HFT.out, HBW.out⟩
      case measure => simp [intOf]; omega
    · obtain rfl : k = L.length := by omega
      rw [List.take_of_length_le (by simp)] at hD
      have HH := Lib.hid h'
      have HD := Lib.hid hD
      have HS := Lib.hid hS
      have HB := Lib.hid hbel
      clear h' hD hS hbel hlt
      go_wp2_with fail
      go_ret
      exact ⟨_, rfl, ⟨v, L', HH.out, HD.out, HS.out⟩, HB.out⟩
theorem s_copy (h : OSt w b pr ev D nx S) (hw : WfD D nx) : Calls Tryz.prog 26 #[.pointer (some ⟨b, 0, none⟩)] w (CpP w pr ev D nx) := by
  obtain ⟨v, L, h1, rfl, h3⟩ := h
  obtain ⟨g1, g2, g3, g4⟩ := dat_good rfl hw
  exact ocopy h1 (fun x hx => by have := (g1 x hx).2; omega) (by omega)
end
end Go.Proofs.YthjkdeocdhdkaaaGreat
/- The program's set and the reference's side by side; words and answers that are compared. -/
namespace Go.Proofs.YthjkdeocdhdkaaaGreat
open Go.RowKit
set_option linter.unusedVariables false
set_option linter.unusedSimpArgs false
theorem neqW1 (a b : Int) (w : World) : (binOp .neq 29 (.agg #[.int .i64 a, .int .i64 b]) (.agg #[.int .i64 a, .int .i64 b])).run Tryz.prog w = .ok (.bool false) w := by
  have u3 := Tryz.underlying3
  have hS : Tryz.prog.underlying 29 = some (.struct (Tryz.prog.fieldsOf 29)) := by kernel_rfl
  have hp : Tryz.prog.stoodInHeld 29 = false := by kernel_rfl
  rw [run_neq_struct, show (10000 : Nat) = 9999 + 1 from rfl, run_equalIn_agg w 9999 29 _ _ hS hp]
  simp only [Program.fieldsOf, Tryz.underlying29]
  go_simp
section
variable {w0 w w' W : World} {D D' : List OverD} {b p : Nat} {pr ev nx nx' : Int} {So Sr S T : Nat → Prop} {j : Nat} {v v' : Value} {l : List Int}
theorem ids_len (h : WfD D nx) (ev : Int) (a : Act18) : (doR ev D nx a).ids.length ≤ 1024 := by
  have hl := h.len
  unfold doR
  repeat' split
  all_goals (try simp)
  unfold delI goneI
  split
  · rw [List.length_map]
    exact Nat.le_trans (List.length_filter_le _ _) hl
  · simp
/-- A value that reads as a list of numbers. -/
def SlI (w : World) (v : Value) (l : List Int) : Prop := ∃ A c, v = .slice A l.length c ∧ RSl encI w A l
theorem SlI.up (h : SlI w v l) (hb : Below w.heap.size w w') : SlI w' v l := by
  obtain ⟨A, c, e, h1⟩ := h; exact ⟨A, c, e, h1.up hb⟩
theorem SlI.of {B : Nat} (h : ROwn encI 3 1 B w v l) : SlI w v l := by
  obtain ⟨A, c, e, _, _, h1⟩ := h.shape eltI; exact ⟨A, c, e, h1⟩
theorem same_sl (h : SlI w v l) (h' : SlI w v' l) (hl : l.length ≤ 1000000) : Calls Tryz.prog 9 #[v, v'] w fun e w' => e = .returned (.bool true) ∧ Below w.heap.size w w' := by
  obtain ⟨A, c, rfl, h1⟩ := h
  obtain ⟨A', c', rfl, h2⟩ := h'
  have := same_any h1 h2 c c' hl hl
  simpa using this
theorem word_out (o : Option (Int × Int)) : ∃ k n q, wordV o = .tuple #[.agg #[.int .i64 k, .int .i64 n], .bool q] := by
  cases o with
  | none => exact ⟨0, 0, false, rfl⟩
  | some kn => exact ⟨kn.1, kn.2, true, rfl⟩
theorem ends_out (o : Option OverD) : ∃ f t q, endsV o = .tuple #[.int .i64 f, .int .i64 t, .bool q] := by
  cases o with
  | none => exact ⟨0, 0, false, rfl⟩
  | some x => exact ⟨x.f, x.t, true, rfl⟩
theorem win_out (L : List OverD) (nm : Int) : ∃ k n i q, winL L nm = .tuple #[.agg #[.int .i64 k, .int .i64 n], .int .i64 i, .bool q] := by
  unfold winL
  split
  · split
    · exact ⟨_, _, _, _, rfl⟩
    · exact ⟨_, _, _, _, rfl⟩
  · exact ⟨_, _, _, _, rfl⟩
theorem RSt.len (h : RSt w p pr ev D nx S) : ∃ A c, w.cell? ⟨p, 0, none⟩ = some (.slice A D.length c) := by
  obtain ⟨v, M, h1, rfl, _⟩ := h
  obtain ⟨A, c, rfl, _, _, _⟩ := h1.own.shape eltO
  exact ⟨A, c, by rw [List.length_map]; exact h1.cell 0 _ rfl⟩
theorem RSt.plt (h : RSt w p pr ev D nx S) : p < w.heap.size := by
  obtain ⟨v, M, h1, _, _⟩ := h; exact h1.plt
theorem st_rall (h : RSt w p pr ev D nx S) (hw : WfD D nx) : Calls Tryz.prog 12 #[.pointer (some ⟨p, 0, none⟩)] w fun e w' => ∃ v M, e = .returned v ∧ AllAt w.heap.size w' v M D ∧ Below w.heap.size w w' :=
  (s_rall h hw).mono fun e w' ⟨v, M, he, h1, h2, h3, h4⟩ => ⟨v, M, he, ⟨h1, h2, h3⟩, h4⟩
theorem rgood (h : RSt w p pr ev D nx S) (hw : WfD D nx) : ∃ v M, RefAt w p pr ev v M nx ∧ M.map OverE.dat = D ∧ (∀ y ∈ M, SortedP y.ps ∧ y.ps.length ≤ 1000000) ∧ (M.map (fun y => y.dat.id)).Nodup ∧ M.length ≤ 1000000 := by
  obtain ⟨v, M, h1, rfl, hS⟩ := h
  obtain ⟨g1, g2, g3, g4⟩ := dat_good rfl hw
  exact ⟨v, M, h1, rfl, fun y hy => ⟨(g1 y hy).1, by have := (g1 y hy).2; omega⟩, g3, by omega⟩
theorem s_rat (h : RSt w p pr ev D nx S) (hw : WfD D nx) (at_ : Int) : Calls Tryz.prog 15 #[.pointer (some ⟨p, 0, none⟩), .int .i64 at_] w (IsPost w (atI pr D at_)) := by
  obtain ⟨v, M, h1, rfl, g1, g2, g3⟩ := rgood h hw
  exact r_at h1 g1 g2 g3 at_
theorem s_rin (h : RSt w p pr ev D nx S) (hw : WfD D nx) (f t : Int) : Calls Tryz.prog 17 #[.pointer (some ⟨p, 0, none⟩), .int .i64 f, .int .i64 t] w (IsPost w (inI pr D f t)) := by
  obtain ⟨v, M, h1, rfl, g1, g2, g3⟩ := rgood h hw
  exact r_in h1 g1 g2 g3 f t
theorem s_rnext (h : RSt w p pr ev D nx S) (hw : WfD D nx) (f t : Int) : Calls Tryz.prog 19 #[.pointer (some ⟨p, 0, none⟩), .int .i64 f, .int .i64 t] w fun e w' => e = .returned (.int .i64 (nextI D f t)) ∧ w = w' := by
  obtain ⟨v, M, h1, rfl, g1, g2, g3⟩ := rgood h hw
  exact r_next h1 f t g3
theorem s_rget (h : RSt w p pr ev D nx S) (hw : WfD D nx) (id nm : Int) : Calls Tryz.prog 21 #[.pointer (some ⟨p, 0, none⟩), .int .i64 id, .int .i64 nm] w fun e w' => e = .returned (wordV (getD D id nm)) ∧ Below w.heap.size w w' := by
  obtain ⟨v, M, h1, rfl, g1, g2, g3⟩ := rgood h hw
  exact r_get h1 g1 id nm g3
theorem s_rends (h : RSt w p pr ev D nx S) (hw : WfD D nx) (id : Int) : Calls Tryz.prog 23 #[.pointer (some ⟨p, 0, none⟩), .int .i64 id] w fun e w' => e = .returned (endsV (endsD D id)) ∧ Below w.heap.size w w' := by
  obtain ⟨v, M, h1, rfl, g1, g2, g3⟩ := rgood h hw
  exact r_ends h1 id g3
theorem atI_len' (h : WfD D nx) (q : Int) : (atI pr D q).length ≤ 1000000 := by
  have h1 := (sortD_perm pr (D.filter (covB q))).length_eq
  have h2 := List.length_filter_le (covB q) D
  have h3 := h.len
  unfold atI
  rw [List.length_map]; omega
theorem inI_len' (h : WfD D nx) (f t : Int) : (inI pr D f t).length ≤ 1000000 := by
  have h1 := (sortD_perm pr (D.filter (inB f t))).length_eq
  have h2 := List.length_filter_le (inB f t) D
  have h3 := h.len
  unfold inI
  rw [List.length_map]; omega
/-- After j acts on both; what each owns is new since w0, and of its own. -/
structure Scr (w0 w : World) (b p : Nat) (pr ev : Int) (D : List OverD) (nx : Int) (j : Nat) (So Sr : Nat → Prop) : Prop where
  wf : WfD D nx
  n1 : nx ≤ j
  os : OSt w b pr ev D nx So
  rs : RSt w p pr ev D nx Sr
  lo : ∀ k, So k → w0.heap.size ≤ k
  lr : ∀ k, Sr k → w0.heap.size ≤ k
  uo : ∀ k, So k → k < w.heap.size
  ur : ∀ k, Sr k → k < w.heap.size
  sep : ∀ k, So k → ¬ Sr k
  bel : Below w0.heap.size w0 w
theorem Scr.up (h : Scr w0 w b p pr ev D nx j So Sr) (hb : Below w.heap.size w w') : Scr w0 w' b p pr ev D nx j So Sr :=
  ⟨h.wf, h.n1, h.os.up hb, h.rs.up hb, h.lo, h.lr, fun k hk => Nat.lt_of_lt_of_le (h.uo k hk) hb.size, fun k hk => Nat.lt_of_lt_of_le (h.ur k hk) hb.size, h.sep, up2 h.bel hb⟩
theorem Scr.start {w1 w2 w3 : World} (h0 : Below w0.heap.size w0 w1) (h1 : OSt w2 b pr ev [] 0 (fun k => w1.heap.size ≤ k)) (hb1 : Below w1.heap.size w1 w2) (h2 : RSt w3 p pr ev [] 0 (fun k => w2.heap.size ≤ k)) (hb2 : Below w2.heap.size w2 w3) :
    Scr w0 w3 b p pr ev [] 0 0 (fun k => w1.heap.size ≤ k ∧ k < w2.heap.size) (fun k => w2.heap.size ≤ k ∧ k < w3.heap.size) :=
  ⟨WfD.nil, by omega, h1.tight'.up hb2, h2.tight, fun k hk => Nat.le_trans h0.size hk.1, fun k hk => Nat.le_trans (Nat.le_trans h0.size hb1.size) hk.1, fun k hk => Nat.lt_of_lt_of_le hk.2 hb2.size, fun k hk => hk.2, fun k hk hr => by have := hk.2; have := hr.1; omega, up2 (up2 h0 hb1) hb2⟩
/-- Between the act on the program's set and that on the reference's. -/
structure Mid (w0 w : World) (b p : Nat) (pr ev : Int) (D : List OverD) (nx : Int) (D' : List OverD) (nx' : Int) (j : Nat) (gv : Value) (ids : List Int) (So Sr : Nat → Prop) : Prop where
  wf : WfD D nx
  n1 : nx ≤ j
  os : OSt w b pr ev D' nx' So
  rs : RSt w p pr ev D nx Sr
  lo : ∀ k, So k → w0.heap.size ≤ k
  lr : ∀ k, Sr k → w0.heap.size ≤ k
  uo : ∀ k, So k → k < w.heap.size
  ur : ∀ k, Sr k → k < w.heap.size
  sep : ∀ k, So k → ¬ Sr k
  bel : Below w0.heap.size w0 w
  own : ROwn encI 3 1 0 w gv ids
  apart : ∀ g, gv.ownBlock = some g → ¬ Sr g
def DoP (w0 w : World) (b p : Nat) (pr ev : Int) (D : List OverD) (nx : Int) (a : Act18) (j : Nat) (So Sr : Nat → Prop) (e : Ending) (w' : World) : Prop :=
  ∃ gv S1, e = .returned (.tuple #[gv, .int .i64 (doR ev D nx a).err]) ∧ Mid w0 w' b p pr ev D nx (doR ev D nx a).D (doR ev D nx a).nx j gv (doR ev D nx a).ids S1 Sr ∧ Only So w w'
theorem scr_do (h : Scr w0 w b p pr ev D nx j So Sr) (a : Act18) (hj : j ≤ 1000000) :
    Calls Tryz.prog 7 #[.pointer (some ⟨b, 0, none⟩), actV a] w (DoP w0 w b p pr ev D nx a j So Sr) := by
  have hn := h.n1
  have hz := h.bel.size
  refine (do_any h.os h.wf a (by omega)).mono ?_
  rintro e w' ⟨gv, he, ho, S', h1, h2, h3⟩
  refine ⟨gv, fun k => S' k ∧ k < w'.heap.size, he, ⟨h.wf, h.n1, h1.tight', h.rs.only h2 (fun k hs _ hso => h.sep k hso hs), fun k hk => ?_, h.lr, fun k hk => hk.2, fun k hk => Nat.lt_of_lt_of_le (h.ur k hk) h2.size, fun k hk hr => ?_, h.bel.trans (h2.below hz h.lo), ho.low (Nat.zero_le _), fun g hg hr => ?_⟩, h2⟩
  · rcases h3 k hk.1 with h4 | ⟨h4, _⟩
    · exact h.lo k h4
    · omega
  · rcases h3 k hk.1 with h4 | ⟨h4, _⟩
    · exact h.sep k h4 hr
    · have := h.ur k hr; omega
  · have h4 := ho.base hg
    have := h.ur g hr; omega
def DoesP (w0 w : World) (b p : Nat) (pr ev : Int) (D : List OverD) (nx : Int) (a : Act18) (j : Nat) (gv : Value) (Sr : Nat → Prop) (e : Ending) (w' : World) : Prop :=
  ∃ gv2 So2 Sr2, e = .returned (.tuple #[gv2, .int .i64 (doR ev D nx a).err]) ∧ Scr w0 w' b p pr ev (doR ev D nx a).D (doR ev D nx a).nx (j + 1) So2 Sr2 ∧ SlI w' gv (doR ev D nx a).ids ∧ SlI w' gv2 (doR ev D nx a).ids ∧ Only Sr w w'
theorem scr_does {gv : Value} (a : Act18) (h : Mid w0 w b p pr ev D nx (doR ev D nx a).D (doR ev D nx a).nx j gv (doR ev D nx a).ids So Sr) (hj : j ≤ 1000000) :
    Calls Tryz.prog 8 #[.pointer (some ⟨p, 0, none⟩), actV a] w (DoesP w0 w b p pr ev D nx a j gv Sr) := by
  have hn := h.n1
  have hz := h.bel.size
  refine (does_any h.rs h.wf a (by omega)).mono ?_
  rintro e w' ⟨gv2, he, ho, S', h1, h2, h3⟩
  refine ⟨gv2, So, fun k => S' k ∧ k < w'.heap.size, he, ⟨wf_do h.wf ev a, by have := (nx_do (D := D) (nx := nx) ev a).2; omega, h.os.only h2 (fun k hs _ => h.sep k hs), h1.tight, h.lo, fun k hk => ?_, fun k hk => Nat.lt_of_lt_of_le (h.uo k hk) h2.size, fun k hk => hk.2, fun k hk hr => ?_, h.bel.trans (h2.below hz h.lr)⟩, SlI.of (h.own.kept fun g hg => h2.block g (h.own.lt hg) (h.apart g hg)), SlI.of ho, h2⟩
  · rcases h3 k hk.1 with h4 | ⟨h4, _⟩
    · exact h.lr k h4
    · omega
  · rcases h3 k hr.1 with h4 | ⟨h4, _⟩
    · exact h.sep k hk h4
    · have := h.uo k hk; omega
end
end Go.Proofs.YthjkdeocdhdkaaaGreat
