import Derived.Test.YthjkdeocdhdkaaaGreatOsRa
import Derived.Test.YthjkdeocdhdkaaaGreatOvNx
/- Overlays, the reference: value, Get, Put, Take. -/
namespace Go.Proofs.YthjkdeocdhdkaaaGreat
open Go.RowKit
set_option linter.unusedVariables false
set_option linter.unusedSimpArgs false
section
variable {w w' W : World} {x y : OverE} {D : List OverD} {L L' M M' : List OverE} {p : Nat} {pr ev nx nm : Int} {v v' : Value} {A : Option Addr} {S T : Nat → Prop} {ps : List PropE}
set_option maxRecDepth 100000 in
set_option maxHeartbeats 1000000 in
theorem rvalue_any (h : RSl encP w A ps) (hs : SortedP ps) (c : Nat) (nm : Int) (hl : ps.length ≤ 1000000) :
    Calls Tryz.prog 54 #[.slice A ps.length c, .int .i64 nm] w fun e w' => e = .returned (wordV (valP ps nm)) ∧ Below w.heap.size w w' := by
  have hv := rval_eq (nm := nm) ps hs
  have HVL := Lib.hid hv
  have HH := Lib.hid h
  clear h hs hv
  go_enter Tryz.func54, Tryz.ntmps54
  go_wp2_with fail
  go_loopw [6] (fun vi wz => ∃ k : Nat, k ≤ ps.length ∧ vi = .int .i64 k ∧ (∀ q ∈ ps.take k, q.name ≠ nm) ∧ wz = w.alloc (.cells #[.int .i64 0, .int .i64 0] 29)) (fun vi _ => ps.length - (intOf vi).toNat)
  case atStart => exact ⟨0, by omega, rfl, by simp, rfl⟩
  case round =>
    obtain ⟨k, hk, rfl, hno, rfl⟩ := hrel
    have HN := Lib.hid hno
    clear hno
    by_cases hlt : k < ps.length
    · obtain ⟨q, hq⟩ : ∃ q, ps[k]? = some q := ⟨_, List.getElem?_eq_getElem hlt⟩
      obtain ⟨g, o, hAe, hg, hc⟩ := HH.out.at_ eltP hq
      have k0 := hc 0 _ rfl
      have k1 := hc 1 _ rfl
      have k2 := hc 2 _ rfl
      simp only [← Nat.add_assoc, Nat.add_zero] at k0 k1 k2
      have hlt' : (k : Int) < ps.length := by omega
      have HQ := Lib.hid hq
      obtain ⟨qn, qk, qm⟩ := q
      dsimp only at k0 k1 k2
      clear hq hc
      subst hAe
      by_cases he : qn = nm
      · have hb : (qn == nm) = true := by simpa using he
        have hfind : (ps.find? (fun p => p.name == nm)).map (fun p => (p.kind, p.n)) = some (qk, qm) := by
          have h2 : ps.find? (fun p => p.name == nm) = some ⟨qn, qk, qm⟩ := by
            have h3 := HQ.out
            rw [← List.take_append_drop k ps, List.find?_append, List.find?_eq_none.2 (fun z hz => by simpa using HN.out z hz)]
            rw [List.drop_eq_getElem_cons hlt, List.find?_cons, (List.getElem?_eq_some_iff.1 h3).2]
            simp [he]
          rw [h2]; rfl
        have HF := Lib.hid (show wordV (valP ps nm) = .tuple #[.agg #[.int .i64 qk, .int .i64 qm], .bool true] by rw [← HVL.out, hfind]; rfl)
        have m0 := MapKept.heap_alloc w (.cells #[.int .i64 0, .int .i64 0] 29)
        clear he hfind
        go_wp2_with fail
        refine bodyPost_ret (v := .tuple #[.agg #[.int .i64 qk, .int .i64 qm], .bool true]) (by simp [results, Tryz.f54, go_sem]) rfl ⟨by rw [HF.out], ?_⟩
        exact below1 _ _
      · have hb : (qn == nm) = false := by simpa using he
        have HE := Lib.hid he
        clear he
        go_wp2_with fail
        go_roundw
        case rel =>
          refine ⟨k + 1, by omega, by go_num, fun z hz => ?_, by first | trivial | rfl⟩
          rw [List.take_add_one, HQ.out] at hz
          rcases List.mem_append.1 hz with h1 | h1
          · exact HN.out z h1
          · simp at h1; subst h1; exact HE.out
        case measure => simp [intOf]; omega
    · obtain rfl : k = ps.length := by omega
      rw [List.take_of_length_le (Nat.le_refl _)] at HN
      have hfind : ps.find? (fun p => p.name == nm) = none := List.find?_eq_none.2 fun z hz => by simpa using HN.out z hz
      have HF := Lib.hid (show wordV (valP ps nm) = .tuple #[.agg #[.int .i64 0, .int .i64 0], .bool false] by rw [← HVL.out, hfind]; rfl)
      clear hlt hfind
      go_wp2_with fail
      refine bodyPost_ret (v := .tuple #[.agg #[.int .i64 0, .int .i64 0], .bool false]) (by simp [results, Tryz.f54, go_sem]) rfl ⟨by rw [HF.out], ?_⟩
      exact below1 _ _
set_option maxRecDepth 100000 in
set_option maxHeartbeats 2000000 in
theorem r_get (h : RefAt w p pr ev v M nx) (hs : ∀ y ∈ M, SortedP y.ps ∧ y.ps.length ≤ 1000000) (id nm : Int) (hl : M.length ≤ 1000000) :
    Calls Tryz.prog 21 #[.pointer (some ⟨p, 0, none⟩), .int .i64 id, .int .i64 nm] w fun e w' => e = .returned (wordV (getD (M.map OverE.dat) id nm)) ∧ Below w.heap.size w w' := by
  have hb := below1 w (.cells #[.int .i64 0, .int .i64 0] 29)
  have h1 := h.up hb
  have HF := Lib.hid (r_find h1 id hl)
  obtain ⟨A, c, hv, hc1, hc2, hr⟩ := h1.own.shape eltO
  subst hv
  have c0 := h1.cell 0 _ rfl
  have m0 := (MapKept.heap_alloc w (.cells #[.int .i64 0, .int .i64 0] 29)).1
  have hplt := h.plt
  unfold getD
  cases hk : (M.map OverE.dat).findIdx? (fun x => x.id == id) with
  | none =>
    obtain ⟨g1, g2⟩ := idxR_none hk
    rw [g1] at HF
    rw [g2]
    have HB := Lib.hid hb
    clear h h1 hr hk g1 g2 hs hb m0
    go_enter Tryz.func21, Tryz.ntmps21
    go_wp2_with fail
    refine HF.out.mono ?_
    rintro e w1 ⟨rfl, rfl⟩
    go_wp2_with fail
    refine bodyPost_ret (v := .tuple #[.agg #[.int .i64 0, .int .i64 0], .bool false]) (by simp [results, Tryz.f21, go_sem]) rfl ⟨rfl, ?_⟩
    exact HB.out
  | some k =>
    obtain ⟨g1, x, hx, g2⟩ := idxR_some hk
    have hkl := (List.getElem?_eq_some_iff.1 hx).1
    have hxm := List.mem_of_getElem? hx
    obtain ⟨g, o, hAe, hg, hc⟩ := hr.at_ eltO hx
    have k5 := hc 5 _ rfl
    simp only [← Nat.add_assoc] at k5
    obtain ⟨hsx, hlx⟩ := hs x hxm
    have HV := Lib.hid (rvalue_any (h1.ps x hxm) hsx x.c nm hlx)
    rw [g1] at HF
    rw [g2]
    simp only [show (OverE.dat x).ps = x.ps from rfl]
    have dk : decide ((k : Int) < 0) = false := decide_eq_false (by omega)
    have hk0 : (0 : Int) ≤ k := by omega
    have hk1 : (k : Int) < M.length := by omega
    have HB := Lib.hid hb
    have M0 := Lib.hid m0
    obtain ⟨xid, f, t, fr, re, xA, xc, xps, xg⟩ := x
    dsimp only at k5 HV ⊢
    clear h h1 hr hk g1 g2 hx hc hs hb m0 hxm hsx
    subst hAe
    cases hvp : valP xps nm with
    | none =>
      rw [hvp, show wordV (none : Option (Int × Int)) = .tuple #[.agg #[.int .i64 0, .int .i64 0], .bool false] from rfl] at HV
      clear hvp
      go_enter Tryz.func21, Tryz.ntmps21
      go_wp2_with fail
      refine HF.out.mono ?_
      rintro e w1 ⟨rfl, rfl⟩
      go_wp2_with fail
      refine HV.out.mono ?_
      rintro e w2 ⟨rfl, b2⟩
      have e2 := (b2.block w.heap.size (by simp)).trans M0.out
      have q0 := cell_kind e2 0 _ rfl
      have q1 := cell_kind e2 1 _ rfl
      have z0 := fz_kind e2 0
      have z1 := fz_kind e2 1
      have HB2 := Lib.hid (up2 HB.out b2)
      clear b2 e2
      go_wp2_with fail
      refine bodyPost_ret (v := .tuple #[.agg #[.int .i64 0, .int .i64 0], .bool false]) (by simp [results, Tryz.f21, go_sem, q0, q1]) rfl ⟨rfl, ?_⟩
      exact (HB2.out.setCell (p := ⟨w.heap.size, 0, none⟩) (Nat.le_refl _) _).setCell (p := ⟨w.heap.size, 1, none⟩) (Nat.le_refl _) _
    | some kn =>
      obtain ⟨vk, vn⟩ := kn
      rw [hvp, show wordV (some (vk, vn)) = .tuple #[.agg #[.int .i64 vk, .int .i64 vn], .bool true] from rfl] at HV
      clear hvp
      go_enter Tryz.func21, Tryz.ntmps21
      go_wp2_with fail
      refine HF.out.mono ?_
      rintro e w1 ⟨rfl, rfl⟩
      go_wp2_with fail
      refine HV.out.mono ?_
      rintro e w2 ⟨rfl, b2⟩
      have e2 := (b2.block w.heap.size (by simp)).trans M0.out
      have q0 := cell_kind e2 0 _ rfl
      have q1 := cell_kind e2 1 _ rfl
      have z0 := fz_kind e2 0
      have z1 := fz_kind e2 1
      have HB2 := Lib.hid (up2 HB.out b2)
      clear b2 e2
      go_wp2_with fail
      refine bodyPost_ret (v := .tuple #[.agg #[.int .i64 vk, .int .i64 vn], .bool true]) (by simp [results, Tryz.f21, go_sem, q0, q1]) rfl ⟨rfl, ?_⟩
      exact (HB2.out.setCell (p := ⟨w.heap.size, 0, none⟩) (Nat.le_refl _) _).setCell (p := ⟨w.heap.size, 1, none⟩) (Nat.le_refl _) _
theorem nxS_ways (at_ c m : Int) : (decide (at_ < c) = false ∧ nxS at_ c m = m) ∨ (decide (at_ < c) = true ∧ decide (c < m) = false ∧ nxS at_ c m = m) ∨ (decide (at_ < c) = true ∧ decide (c < m) = true ∧ nxS at_ c m = c) := by
  unfold nxS
  by_cases h1 : at_ < c
  · by_cases h2 : c < m
    · exact .inr (.inr ⟨decide_eq_true h1, decide_eq_true h2, if_pos ⟨h1, h2⟩⟩)
    · exact .inr (.inl ⟨decide_eq_true h1, decide_eq_false h2, if_neg fun h => h2 h.2⟩)
  · exact .inl ⟨decide_eq_false h1, if_neg fun h => h1 h.1⟩
set_option maxRecDepth 100000 in
set_option maxHeartbeats 4000000 in
theorem r_next (h : RefAt w p pr ev v M nx) (at_ most : Int) (hl : M.length ≤ 1000000) : Calls Tryz.prog 19 #[.pointer (some ⟨p, 0, none⟩), .int .i64 at_, .int .i64 most] w fun e w' => e = .returned (.int .i64 (nextI (M.map OverE.dat) at_ most)) ∧ w = w' := by
  obtain ⟨A, c, hv, hc1, hc2, hr⟩ := h.own.shape eltO
  subst hv
  have c0 := h.cell 0 _ rfl
  have HR := Lib.hid hr
  clear h hr
  go_enter Tryz.func19, Tryz.ntmps19
  go_wp2_with fail
  go_loopw [7, 8] (fun vm vi wz => ∃ k : Nat, k ≤ M.length ∧ vi = .int .i64 k ∧ vm = .int .i64 (nextI ((M.take k).map OverE.dat) at_ most) ∧ w = wz) (fun _ vi _ => M.length - (intOf vi).toNat)
  case atStart => exact ⟨0, by omega, rfl, rfl, rfl⟩
  case round =>
    obtain ⟨k, hk, rfl, rfl, rfl⟩ := hrel
    by_cases hlt : k < M.length
    · obtain ⟨x, hx⟩ : ∃ x, M[k]? = some x := ⟨_, List.getElem?_eq_getElem hlt⟩
      obtain ⟨g, o, hAe, hg, hc⟩ := HR.out.at_ eltO hx
      have k1 := hc 1 _ rfl
      have k2 := hc 2 _ rfl
      simp only [← Nat.add_assoc] at k1 k2
      have hstep : nextI ((M.take (k + 1)).map OverE.dat) at_ most = nxS at_ x.t (nxS at_ x.f (nextI ((M.take k).map OverE.dat) at_ most)) := by
        rw [List.take_add_one, hx]
        unfold nextI
        rw [List.map_append, List.foldl_append]; rfl
      have hlt' : (k : Int) < M.length := by omega
      generalize nextI ((M.take k).map OverE.dat) at_ most = m at *
      obtain ⟨xid, f, t, fr, re, xA, xc, xps, xg⟩ := x
      dsimp only at k1 k2 hstep
      clear hx hc
      subst hAe
      rcases nxS_ways at_ f m with ⟨a1, a2⟩ | ⟨a1, a2, a3⟩ | ⟨a1, a2, a3⟩
      · rw [a2] at hstep
        clear a2
        rcases nxS_ways at_ t m with ⟨b1, b2⟩ | ⟨b1, b2, b3⟩ | ⟨b1, b2, b3⟩
        · rw [b2] at hstep
          have HS := Lib.hid hstep
          clear hstep b2
          go_wp2_with fail
          exact ⟨⟨k + 1, by omega, by go_num, by rw [HS.out], by first | trivial | rfl⟩, by simp [intOf]; omega⟩
        · rw [b3] at hstep
          have HS := Lib.hid hstep
          clear hstep b3
          go_wp2_with fail
          exact ⟨⟨k + 1, by omega, by go_num, by rw [HS.out], by first | trivial | rfl⟩, by simp [intOf]; omega⟩
        · rw [b3] at hstep
          have HS := Lib.hid hstep
          clear hstep b3
          go_wp2_with fail
          exact ⟨⟨k + 1, by omega, by go_num, by rw [HS.out], by first | trivial | rfl⟩, by simp [intOf]; omega⟩
      · rw [a3] at hstep
        clear a3
        rcases nxS_ways at_ t m with ⟨b1, b2⟩ | ⟨b1, b2, b3⟩ | ⟨b1, b2, b3⟩
        · rw [b2] at hstep
          have HS := Lib.hid hstep
          clear hstep b2
          go_wp2_with fail
          exact ⟨⟨k + 1, by omega, by go_num, by rw [HS.out], by first | trivial | rfl⟩, by simp [intOf]; omega⟩
        · rw [b3] at hstep
          have HS := Lib.hid hstep
          clear hstep b3
          go_wp2_with fail
          exact ⟨⟨k + 1, by omega, by go_num, by rw [HS.out], by first | trivial | rfl⟩, by simp [intOf]; omega⟩
        · rw [b3] at hstep
          have HS := Lib.hid hstep
          clear hstep b3
          go_wp2_with fail
          exact ⟨⟨k + 1, by omega, by go_num, by rw [HS.out], by first | trivial | rfl⟩, by simp [intOf]; omega⟩
      · rw [a3] at hstep
        clear a3
        rcases nxS_ways at_ t f with ⟨b1, b2⟩ | ⟨b1, b2, b3⟩ | ⟨b1, b2, b3⟩
        · rw [b2] at hstep
          have HS := Lib.hid hstep
          clear hstep b2
          go_wp2_with fail
          exact ⟨⟨k + 1, by omega, by go_num, by rw [HS.out], by first | trivial | rfl⟩, by simp [intOf]; omega⟩
        · rw [b3] at hstep
          have HS := Lib.hid hstep
          clear hstep b3
          go_wp2_with fail
          exact ⟨⟨k + 1, by omega, by go_num, by rw [HS.out], by first | trivial | rfl⟩, by simp [intOf]; omega⟩
        · rw [b3] at hstep
          have HS := Lib.hid hstep
          clear hstep b3
          go_wp2_with fail
          exact ⟨⟨k + 1, by omega, by go_num, by rw [HS.out], by first | trivial | rfl⟩, by simp [intOf]; omega⟩
    · obtain rfl : k = M.length := by omega
      rw [List.take_of_length_le (Nat.le_refl _)]
      clear hlt
      go_wp2_with fail
      go_ret
      exact ⟨rfl, rfl⟩
end
end Go.Proofs.YthjkdeocdhdkaaaGreat
/- Overlays, the reference: Put, Take. -/
namespace Go.Proofs.YthjkdeocdhdkaaaGreat
open Go.RowKit
set_option linter.unusedVariables false
set_option linter.unusedSimpArgs false
section
variable {w w' W : World} {x y : OverE} {D : List OverD} {L L' M M' : List OverE} {p : Nat} {pr ev nx nm : Int} {v v' : Value} {A : Option Addr} {S T : Nat → Prop} {ps : List PropE}
/-- The properties of the i-th overlay put anew. -/
theorem RefAt.props {g cap : Nat} {A' : Option Addr} {c' B : Nat} {ps' : List PropE} {i : Nat} (h : RefAt w p pr ev (.slice (some ⟨g, 0, none⟩) M.length cap) M nx) (hi : M[i]? = some x) (hown : ROwn encP 71 3 B w (.slice A' ps'.length c') ps') (hB : ∀ k, footR p (.slice (some ⟨g, 0, none⟩) M.length cap) M k → k < B) :
    RefAt (w.setCell ⟨g, i * 6 + 5, none⟩ (.slice A' ps'.length c')) p pr ev (.slice (some ⟨g, 0, none⟩) M.length cap) (M.set i ⟨x.id, x.f, x.t, x.fr, x.re, A', c', ps', x.g⟩) nx := by
  obtain ⟨A2, c2, e, _, _, hr⟩ := hown.shape eltP
  cases e
  refine h.put (y := ⟨x.id, x.f, x.t, x.fr, x.re, A', c', ps', x.g⟩) hi (by omega) rfl hr fun hp q o e => ?_
  have hq : B ≤ q := hown.base (by show (Value.slice A' ps'.length c').ownBlock = some q; rw [show A' = some ⟨q, o, none⟩ from e]; rfl)
  have h1 := hB p (.inl rfl)
  have h2 := hB g (.inr (.inl rfl))
  omega
theorem foot_props {g cap : Nat} {A' : Option Addr} {c' B : Nat} {ps' : List PropE} {i : Nat} (hi : M[i]? = some x) (hown : ROwn encP 71 3 B w (.slice A' ps'.length c') ps') (hS : ∀ k, footR p (.slice (some ⟨g, 0, none⟩) M.length cap) M k → S k) :
    ∀ k, footR p (.slice (some ⟨g, 0, none⟩) M.length cap) (M.set i ⟨x.id, x.f, x.t, x.fr, x.re, A', c', ps', x.g⟩) k → S k ∨ B ≤ k := fun k hk => by
  rcases hk with rfl | h3 | ⟨y, hy, hp, o, e⟩
  · exact .inl (hS k (.inl rfl))
  · exact .inl (hS k (.inr (.inl h3)))
  · rcases List.mem_or_eq_of_mem_set hy with h5 | rfl
    · exact .inl (hS k (.inr (.inr ⟨y, h5, hp, o, e⟩)))
    · exact .inr (hown.base (by show (Value.slice A' ps'.length c').ownBlock = some k; rw [show A' = some ⟨k, o, none⟩ from e]; rfl))
/-- The list that Put builds, as memory goes on. -/
structure PutR (w1 wz : World) (vl : Value) (l : List PropE) : Prop where
  own : ROwn encP 71 3 w1.heap.size wz vl l
  bel : Below w1.heap.size w1 wz
theorem PutR.app {w1 wz : World} {A : Option Addr} {c : Nat} {l : List PropE} (h : PutR w1 wz (.slice A l.length c) l) (q : PropE) (hl : l.length ≤ 1000000) :
    ∃ A' c' w2, (∀ ty, (Builtin.append_ #[67, 67] ty #[.slice A l.length c, .slice (some ⟨wz.heap.size, 0, none⟩) 1 1]).run Tryz.prog (wz.alloc (.cells #[.int .i64 q.name, .int .i64 q.kind, .int .i64 q.n] 71)) = .ok (.slice A' (l.length + 1) c') w2) ∧ PutR w1 w2 (.slice A' (l.length + 1) c') (l ++ [q]) ∧ Only (fun g => (Value.slice A l.length c).ownBlock = some g) wz w2 := by
  obtain ⟨v', w', happ, hown', hb', ho', _⟩ := append_elem eltP h.own h.bel.size q (by omega) (by omega)
  obtain ⟨A2, c2, hv2, _, _, _⟩ := hown'.shape eltP
  rw [List.length_append, List.length_singleton] at hv2
  subst hv2
  exact ⟨A2, c2, w', happ, ⟨hown', h.bel.trans hb'⟩, ho'⟩
theorem rputF_step {k n : Int} {j : Nat} {q : PropE} (hq : ps[j]? = some q) : rputF nm k n (ps.take (j + 1)) = rputS nm k n (rputF nm k n (ps.take j)) q := by
  unfold rputF
  rw [List.take_add_one, hq, Option.toList_some, List.foldl_append]; rfl
theorem rputS_len {k n : Int} (s : List PropE × Bool) (q : PropE) : (rputS nm k n s q).1.length ≤ s.1.length + 2 := by
  unfold rputS
  dsimp only
  split <;> split <;> simp
theorem rputF_len (nm k n : Int) (ps : List PropE) (j : Nat) : (rputF nm k n (ps.take j)).1.length ≤ 2 * j := by
  induction j with
  | zero => simp [rputF]
  | succ j ih =>
    by_cases hj : j < ps.length
    · rw [rputF_step (List.getElem?_eq_getElem hj)]
      have := rputS_len (nm := nm) (k := k) (n := n) (rputF nm k n (ps.take j)) ps[j]
      omega
    · rw [List.take_of_length_le (by omega), ← List.take_of_length_le (l := ps) (i := j) (by omega)]; omega
theorem r_putEnd {w1 wz : World} {g cap c' : Nat} {A' : Option Addr} {l : List PropE} {i : Nat} (h0 : RefAt w p pr ev (.slice (some ⟨g, 0, none⟩) M.length cap) M nx)
    (hS : ∀ k, footR p (.slice (some ⟨g, 0, none⟩) M.length cap) M k → S k) (hb : Below w.heap.size w w1) (hput : PutR w1 wz (.slice A' l.length c') l) (hi : M[i]? = some x)
    (hd : (M.set i ⟨x.id, x.f, x.t, x.fr, x.re, A', c', l, x.g⟩).map OverE.dat = D) :
    RPost w p pr ev S (.int .i64 0) D nx (.returned (.int .i64 0)) (wz.setCell ⟨g, i * 6 + 5, none⟩ (.slice A' l.length c')) := by
  have hw1 := hb.size
  have hbz := up2 hb hput.bel
  have hlt : ∀ k, footR p (.slice (some ⟨g, 0, none⟩) M.length cap) M k → k < w1.heap.size := fun k hk => by have := h0.lt hk; omega
  have h1 := (h0.up hbz).props hi hput.own hlt
  refine ⟨rfl, fun k => S k ∨ w1.heap.size ≤ k, ⟨_, _, h1, hd, foot_props hi hput.own hS⟩, (Only.of_below hbz).setCell (hS g (.inr (.inl rfl))) _, fun k hk => ?_⟩
  rcases hk with h | h
  · exact .inl h
  · exact .inr (by omega)
set_option maxRecDepth 100000 in
set_option maxHeartbeats 8000000 in
theorem r_put (h : RSt w p pr ev D nx S) (hw : WfD D nx) (id nm k n : Int) :
    Calls Tryz.prog 40 #[.pointer (some ⟨p, 0, none⟩), .int .i64 id, .int .i64 nm, .agg #[.int .i64 k, .int .i64 n]] w (RPost w p pr ev S (.int .i64 (putE D id nm)) (putD D id nm k n) nx) := by
  have hb := below1 w (.cells #[.int .i64 k, .int .i64 n] 29)
  have m0 := (MapKept.heap_alloc w (.cells #[.int .i64 k, .int .i64 n] 29)).1
  obtain ⟨v, M, h0, rfl, hS⟩ := h
  have hlen := hw.len
  rw [List.length_map] at hlen
  have h1 := h0.up hb
  have HF := Lib.hid (r_find h1 id (by omega))
  have HB := Lib.hid hb
  cases hk : (M.map OverE.dat).findIdx? (fun x => x.id == id) with
  | none =>
    obtain ⟨g1, g2⟩ := idxR_none hk
    have he : putE (M.map OverE.dat) id nm = 8 := by unfold putE; rw [g2]
    rw [putD_err (by rw [he]; omega), he]
    rw [g1] at HF
    have H := Lib.hid (show RSt w p pr ev (M.map OverE.dat) nx S from ⟨v, M, h0, rfl, hS⟩)
    clear h0 h1 hw hk g1 g2 he hS hb m0
    go_enter Tryz.func40, Tryz.ntmps40
    go_wp2_with fail
    refine HF.out.mono ?_
    rintro e w1 ⟨rfl, rfl⟩
    go_wp2_with fail
    go_ret
    exact RPost.same H.out HB.out
  | some i =>
    obtain ⟨g1, x, hx, g2⟩ := idxR_some hk
    have hil := (List.getElem?_eq_some_iff.1 hx).1
    have hxm := List.mem_of_getElem? hx
    have di : decide ((i : Int) < 0) = false := decide_eq_false (by omega)
    rw [g1] at HF
    by_cases hn : nm < 0
    · have he : putE (M.map OverE.dat) id nm = 17 := by unfold putE; rw [g2]; simp only [hn, if_true]
      rw [putD_err (by rw [he]; omega), he]
      have dn : decide (nm < (0 : Int)) = true := decide_eq_true hn
      have H := Lib.hid (show RSt w p pr ev (M.map OverE.dat) nx S from ⟨v, M, h0, rfl, hS⟩)
      clear h0 h1 hw hk g1 g2 he hS hb m0 hx hn hxm
      go_enter Tryz.func40, Tryz.ntmps40
      go_wp2_with fail
      refine HF.out.mono ?_
      rintro e w1 ⟨rfl, rfl⟩
      go_wp2_with fail
      go_ret
      exact RPost.same H.out HB.out
    · have dn : decide (nm < (0 : Int)) = false := decide_eq_false hn
      have hgood : GoodX nx x.dat := hw.good _ (List.mem_map.2 ⟨x, hxm, rfl⟩)
      have hsx : SortedP x.ps := hgood.ps.1
      have hpl : x.ps.length ≤ 64 := hgood.ps.2.1
      obtain ⟨g, cap, hv, hcap, hcm, _, hg, hfz, hcs⟩ := h1.own.lies eltO (by omega)
      subst hv
      have c0 := h1.cell 0 _ rfl
      have k5 := hcs i x 5 _ hx rfl
      have z5 := hfz (i * 6 + 5) (by omega)
      have hplt := h1.plt
      have hi1 : (i : Int) < M.length := by omega
      have hfl : ∀ q, footR p (.slice (some ⟨g, 0, none⟩) M.length cap) M q → q < w.heap.size := fun q hq => h0.lt hq
      have hgw := hfl g (.inr (.inl rfl))
      have hpw := hfl p (.inl rfl)
      obtain ⟨w1, hw1⟩ : ∃ w1, w1 = w.alloc (.cells #[.int .i64 k, .int .i64 n] 29) := ⟨_, rfl⟩
      rw [← hw1] at h1 c0 k5 z5 hplt hg m0
      have hz1 : w1.heap.size = w.heap.size + 1 := by rw [hw1]; simp
      have hxs := h1.ps x hxm
      -- what Put answers
      have hrp : rput nm k n x.ps = putPs x.ps nm k n := rput_eq hsx
      have hpe : putE (M.map OverE.dat) id nm = if 64 < (rput nm k n x.ps).length then 7 else 0 := by
        unfold putE
        rw [g2, hrp]
        simp only [hn, if_false]
        rw [show x.dat.ps = x.ps from rfl]
        unfold putPs
        cases his : isP x.ps nm with
        | true => rw [if_pos rfl, if_pos rfl, List.length_set, if_neg (by omega)]
        | false =>
          simp only [Bool.false_eq_true, if_false]
          have := ixP_le x.ps nm
          rw [show (x.ps.take (ixP x.ps nm) ++ ⟨nm, k, n⟩ :: x.ps.drop (ixP x.ps nm)).length = x.ps.length + 1 by simp; omega]
          by_cases h64 : 64 ≤ x.ps.length
          · rw [if_pos h64, if_pos (by omega)]
          · rw [if_neg h64, if_neg (by omega)]
      have hpd : ∀ A' c', ¬ 64 < (rput nm k n x.ps).length → (M.set i ⟨x.id, x.f, x.t, x.fr, x.re, A', c', rput nm k n x.ps, x.g⟩).map OverE.dat = putD (M.map OverE.dat) id nm k n := fun A' c' hle => by
        unfold putD
        rw [hpe, if_neg hle, if_pos rfl, mapId_some hk, dat_set (u := fun x => psD x (putPs x.ps nm k n)) hx]
        show _ = psD x.dat (putPs x.ps nm k n)
        rw [hrp]; rfl
      have hpx : 64 < (rput nm k n x.ps).length → putD (M.map OverE.dat) id nm k n = M.map OverE.dat := fun hgt => putD_err (by rw [hpe, if_pos hgt]; omega)
      have HPE := Lib.hid hpe
      have HPD := Lib.hid hpd
      have HPX := Lib.hid hpx
      have H0 := Lib.hid h0
      have H1 := Lib.hid h1
      have HS := Lib.hid hS
      have HX := Lib.hid hx
      have HFL := Lib.hid hfl
      have HXS := Lib.hid hxs
      have HW1 := Lib.hid hw1
      have M0 := Lib.hid m0
      rw [← hw1] at HB HF
      clear h0 h1 hw hk g1 g2 hS hb hgood hsx hrp hpe hpd hpx hx hfl hxs hcs hfz hn hlen m0 hw1
      obtain ⟨xid, f, t, fr, re, xA, xc, xps, xg⟩ := x
      dsimp only at k5 HPD HPX HPE HXS hpl
      go_enter Tryz.func40, Tryz.ntmps40
      go_wp2_with fail
      rw [← HW1.out]
      refine HF.out.mono ?_
      rintro e w2 ⟨rfl, rfl⟩
      go_wp2_with fail
      go_loopw [10, 11, 12] (fun vl vd vi wz => ∃ j : Nat, j ≤ xps.length ∧ vi = .int .i64 j ∧ vd = .bool (rputF nm k n (xps.take j)).2 ∧ PutR w1 wz vl (rputF nm k n (xps.take j)).1) (fun _ _ vi _ => xps.length - (intOf vi).toNat)
      case atStart => exact ⟨0, by omega, rfl, rfl, ROwn.nil _ _, Below.refl _ _⟩
      case round =>
        obtain ⟨j, hj, rfl, rfl, hput⟩ := hrel
        obtain ⟨wz, rfl⟩ : ∃ x, x = wr := ⟨_, rfl⟩
        have hbz := hput.bel
        have hz := hbz.size
        have cz := (hbz.cell (p := ⟨p, 0, none⟩) hplt).trans c0
        have kz := (hbz.cell (p := ⟨g, i * 6 + 5, none⟩) hg).trans k5
        have mz := (hbz.block w.heap.size (by omega)).trans M0.out
        have t0 := cell_kind mz 0 _ rfl
        have t1 := cell_kind mz 1 _ rfl
        obtain ⟨Al, cl, hvl, hcl1, hcl2, _⟩ := hput.own.shape eltP
        have hrl := rputF_len nm k n xps j
        by_cases hlt : j < xps.length
        · obtain ⟨q, hq⟩ : ∃ q, xps[j]? = some q := ⟨_, List.getElem?_eq_getElem hlt⟩
          obtain ⟨gx, ox, hAx, hgx, hcx⟩ := (HXS.out.up hbz).at_ eltP hq
          have q0 := hcx 0 _ rfl
          have q1 := hcx 1 _ rfl
          have q2 := hcx 2 _ rfl
          simp only [← Nat.add_assoc, Nat.add_zero] at q0 q1 q2
          have hst := rputF_step (nm := nm) (k := k) (n := n) hq
          have hlt' : (j : Int) < xps.length := by omega
          generalize hl0 : (rputF nm k n (xps.take j)).1 = l0 at *
          generalize hd0 : (rputF nm k n (xps.take j)).2 = d0 at *
          have hs0 : rputF nm k n (xps.take j) = (l0, d0) := by rw [← hl0, ← hd0]
          rw [hs0] at hst
          have hal := below1 wz (.cells #[.int .i64 q.name, .int .i64 q.kind, .int .i64 q.n] 71)
          have s0 := (hal.cell (p := ⟨w.heap.size, 0, none⟩) (show w.heap.size < wz.heap.size by omega)).trans t0
          have s1 := (hal.cell (p := ⟨w.heap.size, 1, none⟩) (show w.heap.size < wz.heap.size by omega)).trans t1
          have HZ1 : (wz.alloc (.cells #[.int .i64 q.name, .int .i64 q.kind, .int .i64 q.n] 71)).heap.size = wz.heap.size + 1 := by simp
          subst hvl
          have hput1 : PutR w1 (wz.alloc (.cells #[.int .i64 q.name, .int .i64 q.kind, .int .i64 q.n] 71)) (.slice Al l0.length cl) l0 := ⟨hput.own.up hal, up2 hbz hal⟩
          have ma := (MapKept.heap_alloc wz (.cells #[.int .i64 q.name, .int .i64 q.kind, .int .i64 q.n] 71)).1
          have HPUT := Lib.hid hput
          have HST := Lib.hid hst
          have HAX := Lib.hid hAx
          have hcase : (d0 = false ∧ nm < q.name) ∨ (d0 = false ∧ q.name = nm) ∨ (d0 = false ∧ q.name < nm) ∨ (d0 = true ∧ q.name ≠ nm) ∨ (d0 = true ∧ q.name = nm) := by
            cases d0
            · rcases Int.lt_trichotomy nm q.name with h | h | h
              · exact .inl ⟨rfl, h⟩
              · exact .inr (.inl ⟨rfl, h.symm⟩)
              · exact .inr (.inr (.inl ⟨rfl, h⟩))
            · by_cases h : q.name = nm
              · exact .inr (.inr (.inr (.inr ⟨rfl, h⟩)))
              · exact .inr (.inr (.inr (.inl ⟨rfl, h⟩)))
          obtain ⟨qn, qk, qm⟩ := q
          dsimp only at q0 q1 q2 hal HZ1 hput1 ma hcase s0 s1
          clear hq hcx hst hl0 hd0 hs0 hput hAx
          have hAx := HAX.out
          subst hAx
          rcases hcase with ⟨rfl, hc⟩ | ⟨rfl, hc⟩ | ⟨rfl, hc⟩ | ⟨rfl, hc⟩ | ⟨rfl, hc⟩
          · have d1 : decide (nm ≤ qn) = true := decide_eq_true (by omega)
            have d2 : (qn != nm) = true := by simp; omega
            have hr : rputF nm k n (xps.take (j + 1)) = (l0 ++ [⟨nm, k, n⟩] ++ [⟨qn, qk, qm⟩], true) := by
              rw [HST.out]
              have g1 : nm ≤ qn := by omega
              have g2 : qn ≠ nm := by omega
              simp [rputS, g1, g2]
            obtain ⟨A2, c2, w2, happ2, hput2, hon2⟩ := hput1.app ⟨nm, k, n⟩ (by omega)
            have hz2 := hon2.size
            have l2 : (l0 ++ [(⟨nm, k, n⟩ : PropE)]).length = l0.length + 1 := by simp
            have hput2' : PutR w1 w2 (.slice A2 (l0 ++ [(⟨nm, k, n⟩ : PropE)]).length c2) (l0 ++ [⟨nm, k, n⟩]) := by rw [l2]; exact hput2
            obtain ⟨A3, c3, w3, happ3, hput3, hon3⟩ := hput2'.app ⟨qn, qk, qm⟩ (by omega)
            rw [l2] at happ3 hput3
            have m2 := (hon2.block wz.heap.size (by omega) (fun e => by have := HPUT.out.own.lt e; omega)).trans ma
            have u0 := cell_kind m2 0 _ rfl
            have u1 := cell_kind m2 1 _ rfl
            have u2 := cell_kind m2 2 _ rfl
            dsimp only at happ2 happ3
            rw [HZ1] at happ2
            have HR := Lib.hid hr
            have HE := Lib.hid hput3
            have HP2 := Lib.hid happ2
            have HP3 := Lib.hid happ3
            clear hr hput1 hput2 hput2' hput3 hon2 hon3 happ2 happ3 m2 ma mz hc hbz
            go_wp2_with (at_builtin; first | refine wpList_app_run rfl _ _ _ rfl rfl rfl HP2.out ?_ | refine wpList_app_run rfl _ _ _ rfl rfl rfl HP3.out ?_)
            exact ⟨⟨j + 1, by omega, by go_num, by rw [HR.out], by rw [HR.out]; exact HE.out⟩, by simp [intOf]; omega⟩
          · have d1 : decide (nm ≤ qn) = true := decide_eq_true (by omega)
            have d2 : (qn != nm) = false := by simp; omega
            have hr : rputF nm k n (xps.take (j + 1)) = (l0 ++ [⟨nm, k, n⟩], true) := by
              rw [HST.out]
              have g1 : nm ≤ qn := by omega
              simp [rputS, g1, hc]
            obtain ⟨A2, c2, w2, happ2, hput2, hon2⟩ := hput1.app ⟨nm, k, n⟩ (by omega)
            have hz2 := hon2.size
            have l2 : (l0 ++ [(⟨nm, k, n⟩ : PropE)]).length = l0.length + 1 := by simp
            have m2 := (hon2.block wz.heap.size (by omega) (fun e => by have := HPUT.out.own.lt e; omega)).trans ma
            have u0 := cell_kind m2 0 _ rfl
            dsimp only at happ2
            rw [HZ1] at happ2
            have HR := Lib.hid hr
            have HE := Lib.hid hput2
            have HP2 := Lib.hid happ2
            clear hr hput1 hput2 hon2 happ2 m2 ma mz hc hbz l2
            go_wp2_with (at_builtin; refine wpList_app_run rfl _ _ _ rfl rfl rfl HP2.out ?_)
            exact ⟨⟨j + 1, by omega, by go_num, by rw [HR.out], by rw [HR.out]; exact HE.out⟩, by simp [intOf]; omega⟩
          · have d1 : decide (nm ≤ qn) = false := decide_eq_false (by omega)
            have d2 : (qn != nm) = true := by simp; omega
            have hr : rputF nm k n (xps.take (j + 1)) = (l0 ++ [⟨qn, qk, qm⟩], false) := by
              rw [HST.out]
              have g1 : ¬ nm ≤ qn := by omega
              have g2 : qn ≠ nm := by omega
              simp [rputS, g1, g2]
            obtain ⟨A2, c2, w2, happ2, hput2, hon2⟩ := hput1.app ⟨qn, qk, qm⟩ (by omega)
            dsimp only at happ2
            rw [HZ1] at happ2
            have HR := Lib.hid hr
            have HE := Lib.hid hput2
            have HP2 := Lib.hid happ2
            clear hr hput1 hput2 hon2 happ2 ma mz hc hbz
            go_wp2_with (at_builtin; refine wpList_app_run rfl _ _ _ rfl rfl rfl HP2.out ?_)
            exact ⟨⟨j + 1, by omega, by go_num, by rw [HR.out], by rw [HR.out]; exact HE.out⟩, by simp [intOf]; omega⟩
          · skip
            have d2 : (qn != nm) = true := by simp; omega
            have hr : rputF nm k n (xps.take (j + 1)) = (l0 ++ [⟨qn, qk, qm⟩], true) := by
              rw [HST.out]
              simp [rputS, hc]
            obtain ⟨A2, c2, w2, happ2, hput2, hon2⟩ := hput1.app ⟨qn, qk, qm⟩ (by omega)
            dsimp only at happ2
            rw [HZ1] at happ2
            have HR := Lib.hid hr
            have HE := Lib.hid hput2
            have HP2 := Lib.hid happ2
            clear hr hput1 hput2 hon2 happ2 ma mz hc hbz
            go_wp2_with (at_builtin; refine wpList_app_run rfl _ _ _ rfl rfl rfl HP2.out ?_)
            exact ⟨⟨j + 1, by omega, by go_num, by rw [HR.out], by rw [HR.out]; exact HE.out⟩, by simp [intOf]; omega⟩
          · have d2 : (qn != nm) = false := by simp; omega
            have hr : rputF nm k n (xps.take (j + 1)) = (l0, true) := by
              rw [HST.out]
              simp [rputS, hc]
            have HR := Lib.hid hr
            have HE := Lib.hid hput1
            clear hr hput1 ma mz hc hbz
            go_wp2_with fail
            exact ⟨⟨j + 1, by omega, by go_num, by rw [HR.out], by rw [HR.out]; exact HE.out⟩, by simp [intOf]; omega⟩
        · obtain rfl : j = xps.length := by omega
          rw [List.take_of_length_le (Nat.le_refl _)] at hput hrl hvl ⊢
          have fz5 := (World.frozen?_of_block (w := w1) (a := ⟨g, i * 6 + 5, none⟩) (hbz.block g hg)).trans z5
          have hrp : rput nm k n xps = if (rputF nm k n xps).2 = true then (rputF nm k n xps).1 else (rputF nm k n xps).1 ++ [⟨nm, k, n⟩] := rfl
          generalize (rputF nm k n xps).1 = l0 at *
          generalize (rputF nm k n xps).2 = d0 at *
          subst hvl
          have HIL := Lib.hid hil
          cases d0 with
          | true =>
            rw [if_pos rfl] at hrp
            rw [hrp] at HPE HPD HPX
            have HPUT := Lib.hid hput
            clear hrp hput hbz
            by_cases hgt : 64 < l0.length
            · have hgt' : (64 : Int) < (l0.length : Int) := by omega
              have HB2 := Lib.hid (up2 HB.out HPUT.out.bel)
              go_wp2_with fail
              rw [HPE.out, if_pos hgt, HPX.out hgt]
              go_ret
              exact RPost.same ⟨_, _, H0.out, rfl, HS.out⟩ HB2.out
            · have hgt' : ¬ (64 : Int) < (l0.length : Int) := by omega
              go_wp2_with fail
              rw [HPE.out, if_neg hgt]
              go_ret
              exact r_putEnd H0.out HS.out HB.out HPUT.out HX.out (HPD.out _ _ hgt)
          | false =>
            rw [if_neg (by simp)] at hrp
            rw [hrp] at HPE HPD HPX
            have hput1 : PutR w1 wz (.slice Al l0.length cl) l0 := hput
            obtain ⟨A2, c2, w2, happ2, hput2, hon2⟩ := hput1.app ⟨nm, k, n⟩ (by omega)
            have hz2 := hon2.size
            have l2 : (l0 ++ [(⟨nm, k, n⟩ : PropE)]).length = l0.length + 1 := by simp
            have hput2' : PutR w1 w2 (.slice A2 (l0 ++ [(⟨nm, k, n⟩ : PropE)]).length c2) (l0 ++ [⟨nm, k, n⟩]) := by rw [l2]; exact hput2
            have cz2 := (hput2.bel.cell (p := ⟨p, 0, none⟩) hplt).trans c0
            have fz2 := (World.frozen?_of_block (w := w1) (a := ⟨g, i * 6 + 5, none⟩) (hput2.bel.block g hg)).trans z5
            dsimp only at happ2
            have kz2 := (hput2.bel.cell (p := ⟨g, i * 6 + 5, none⟩) hg).trans k5
            have HPUT := Lib.hid hput2'
            have HP2 := Lib.hid happ2
            have L2 := Lib.hid l2
            clear hrp hput hput1 hput2 hput2' happ2 hbz hon2 l2
            by_cases hgt : 64 < (l0 ++ [(⟨nm, k, n⟩ : PropE)]).length
            · have hgt' : (64 : Int) < ((l0.length : Int) + 1) := by have := L2.out; omega
              have HGT := Lib.hid hgt
              clear hgt
              have HB2 := Lib.hid (up2 HB.out HPUT.out.bel)
              go_wp2_with (at_builtin; refine wpList_app_run rfl _ _ _ rfl rfl rfl HP2.out ?_)
              rw [HPE.out, if_pos HGT.out, HPX.out HGT.out]
              go_ret
              exact RPost.same ⟨_, _, H0.out, rfl, HS.out⟩ HB2.out
            · have hgt' : ¬ (64 : Int) < ((l0.length : Int) + 1) := by have := L2.out; omega
              have HGT := Lib.hid hgt
              clear hgt
              go_wp2_with (at_builtin; refine wpList_app_run rfl _ _ _ rfl rfl rfl HP2.out ?_)
              rw [HPE.out, if_neg HGT.out]
              go_ret
              have hfin := r_putEnd H0.out HS.out HB.out HPUT.out HX.out (HPD.out _ _ HGT.out)
              rw [L2.out] at hfin
              exact hfin
end
end Go.Proofs.YthjkdeocdhdkaaaGreat
/- Overlays, the reference: Take. -/
namespace Go.Proofs.YthjkdeocdhdkaaaGreat
open Go.RowKit
set_option linter.unusedVariables false
set_option linter.unusedSimpArgs false
section
variable {w w' W : World} {x y : OverE} {D : List OverD} {L L' M M' : List OverE} {p : Nat} {pr ev nx nm : Int} {v v' : Value} {A : Option Addr} {S T : Nat → Prop} {ps : List PropE}
def rtakeF (nm : Int) (ps : List PropE) : List PropE := ps.filter (fun q => q.name != nm)
theorem rtakeF_step {j : Nat} {q : PropE} (hq : ps[j]? = some q) : rtakeF nm (ps.take (j + 1)) = if q.name = nm then rtakeF nm (ps.take j) else rtakeF nm (ps.take j) ++ [q] := by
  unfold rtakeF
  rw [List.take_add_one, hq, Option.toList_some, List.filter_append]
  by_cases h : q.name = nm
  · simp [h]
  · simp [h]
theorem rtakeF_len (nm : Int) (ps : List PropE) (j : Nat) : (rtakeF nm (ps.take j)).length ≤ j := by
  refine Nat.le_trans (List.length_filter_le _ _) ?_
  simp; omega
set_option maxRecDepth 100000 in
set_option maxHeartbeats 8000000 in
theorem r_take (h : RSt w p pr ev D nx S) (hw : WfD D nx) (id nm : Int) :
    Calls Tryz.prog 41 #[.pointer (some ⟨p, 0, none⟩), .int .i64 id, .int .i64 nm] w (RPost w p pr ev S (.int .i64 (takeE D id nm)) (takeD D id nm) nx) := by
  obtain ⟨v, M, h0, rfl, hS⟩ := h
  have hlen := hw.len
  rw [List.length_map] at hlen
  have HF := Lib.hid (r_find h0 id (by omega))
  cases hk : (M.map OverE.dat).findIdx? (fun x => x.id == id) with
  | none =>
    obtain ⟨g1, g2⟩ := idxR_none hk
    have he : takeE (M.map OverE.dat) id nm = 8 := by unfold takeE; rw [g2]
    rw [takeD_err (by rw [he]; omega), he]
    rw [g1] at HF
    have H := Lib.hid (show RSt w p pr ev (M.map OverE.dat) nx S from ⟨v, M, h0, rfl, hS⟩)
    clear h0 hw hk g1 g2 he hS
    go_enter Tryz.func41, Tryz.ntmps41
    go_wp2_with fail
    refine HF.out.mono ?_
    rintro e w1 ⟨rfl, rfl⟩
    go_wp2_with fail
    go_ret
    exact RPost.same H.out (Below.refl _ _)
  | some i =>
    obtain ⟨g1, x, hx, g2⟩ := idxR_some hk
    have hil := (List.getElem?_eq_some_iff.1 hx).1
    have hxm := List.mem_of_getElem? hx
    have di : decide ((i : Int) < 0) = false := decide_eq_false (by omega)
    rw [g1] at HF
    by_cases hn : nm < 0
    · have he : takeE (M.map OverE.dat) id nm = 17 := by unfold takeE; rw [g2]; simp only [hn, if_true]
      rw [takeD_err (by rw [he]; omega), he]
      have dn : decide (nm < (0 : Int)) = true := decide_eq_true hn
      have H := Lib.hid (show RSt w p pr ev (M.map OverE.dat) nx S from ⟨v, M, h0, rfl, hS⟩)
      clear h0 hw hk g1 g2 he hS hx hn hxm
      go_enter Tryz.func41, Tryz.ntmps41
      go_wp2_with fail
      refine HF.out.mono ?_
      rintro e w1 ⟨rfl, rfl⟩
      go_wp2_with fail
      go_ret
      exact RPost.same H.out (Below.refl _ _)
    · have dn : decide (nm < (0 : Int)) = false := decide_eq_false hn
      have hgood : GoodX nx x.dat := hw.good _ (List.mem_map.2 ⟨x, hxm, rfl⟩)
      have hsx : SortedP x.ps := hgood.ps.1
      have hpl : x.ps.length ≤ 64 := hgood.ps.2.1
      obtain ⟨g, cap, hv, hcap, hcm, _, hg, hfz, hcs⟩ := h0.own.lies eltO (by omega)
      subst hv
      have c0 := h0.cell 0 _ rfl
      have k5 := hcs i x 5 _ hx rfl
      have z5 := hfz (i * 6 + 5) (by omega)
      have hplt := h0.plt
      have hi1 : (i : Int) < M.length := by omega
      have hxs := h0.ps x hxm
      have hpe : takeE (M.map OverE.dat) id nm = 0 := by
        unfold takeE
        rw [g2]
        simp only [hn, if_false]
      have hpd : ∀ A' c', (M.set i ⟨x.id, x.f, x.t, x.fr, x.re, A', c', rtakeF nm x.ps, x.g⟩).map OverE.dat = takeD (M.map OverE.dat) id nm := fun A' c' => by
        unfold takeD
        rw [hpe, if_pos rfl, mapId_some hk, dat_set (u := fun x => psD x (takePs x.ps nm)) hx]
        show _ = psD x.dat (takePs x.ps nm)
        unfold rtakeF
        rw [rtake_eq _ hsx]; rfl
      have HPE := Lib.hid hpe
      have HPD := Lib.hid hpd
      have H0 := Lib.hid h0
      have HS := Lib.hid hS
      have HX := Lib.hid hx
      have HXS := Lib.hid hxs
      clear h0 hw hk g1 g2 hS hgood hsx hpe hpd hx hxs hcs hfz hn hlen
      obtain ⟨xid, f, t, fr, re, xA, xc, xps, xg⟩ := x
      dsimp only at k5 HPD HPE HXS hpl
      go_enter Tryz.func41, Tryz.ntmps41
      go_wp2_with fail
      refine HF.out.mono ?_
      rintro e w2 ⟨rfl, rfl⟩
      go_wp2_with fail
      go_loopw [8, 9] (fun vl vi wz => ∃ j : Nat, j ≤ xps.length ∧ vi = .int .i64 j ∧ PutR w wz vl (rtakeF nm (xps.take j))) (fun _ vi _ => xps.length - (intOf vi).toNat)
      case atStart => exact ⟨0, by omega, rfl, ROwn.nil _ _, Below.refl _ _⟩
      case round =>
        obtain ⟨j, hj, rfl, hput⟩ := hrel
        obtain ⟨wz, rfl⟩ : ∃ x, x = wr := ⟨_, rfl⟩
        have hbz := hput.bel
        have hz := hbz.size
        have cz := (hbz.cell (p := ⟨p, 0, none⟩) hplt).trans c0
        have kz := (hbz.cell (p := ⟨g, i * 6 + 5, none⟩) hg).trans k5
        obtain ⟨Al, cl, hvl, hcl1, hcl2, _⟩ := hput.own.shape eltP
        have hrl := rtakeF_len nm xps j
        by_cases hlt : j < xps.length
        · obtain ⟨q, hq⟩ : ∃ q, xps[j]? = some q := ⟨_, List.getElem?_eq_getElem hlt⟩
          obtain ⟨gx, ox, hAx, hgx, hcx⟩ := (HXS.out.up hbz).at_ eltP hq
          have q0 := hcx 0 _ rfl
          have q1 := hcx 1 _ rfl
          have q2 := hcx 2 _ rfl
          simp only [← Nat.add_assoc, Nat.add_zero] at q0 q1 q2
          have hst := rtakeF_step (nm := nm) hq
          have hlt' : (j : Int) < xps.length := by omega
          generalize hl0 : rtakeF nm (xps.take j) = l0 at *
          subst hvl
          have HPUT := Lib.hid hput
          have HST := Lib.hid hst
          have HAX := Lib.hid hAx
          obtain ⟨qn, qk, qm⟩ := q
          dsimp only at q0 q1 q2
          clear hq hcx hst hl0 hAx
          have hAx := HAX.out
          subst hAx
          by_cases hc : qn = nm
          · have d2 : (qn != nm) = false := by simp; omega
            have hr : rtakeF nm (xps.take (j + 1)) = l0 := by rw [HST.out]; exact if_pos hc
            have HR := Lib.hid hr
            clear hr hput hbz hc
            go_wp2_with fail
            exact ⟨⟨j + 1, by omega, by go_num, by rw [HR.out]; exact HPUT.out⟩, by simp [intOf]; omega⟩
          · have d2 : (qn != nm) = true := by simp; omega
            have hr : rtakeF nm (xps.take (j + 1)) = l0 ++ [⟨qn, qk, qm⟩] := by rw [HST.out]; exact if_neg hc
            obtain ⟨A2, c2, w2, happ2, hput2, hon2⟩ := hput.app ⟨qn, qk, qm⟩ (by omega)
            dsimp only at happ2
            have HR := Lib.hid hr
            have HE := Lib.hid hput2
            have HP2 := Lib.hid happ2
            clear hr hput hput2 hon2 happ2 hbz hc
            go_wp2_with (at_builtin; refine wpList_app_run rfl _ _ _ rfl rfl rfl HP2.out ?_)
            exact ⟨⟨j + 1, by omega, by go_num, by rw [HR.out]; exact HE.out⟩, by simp [intOf]; omega⟩
        · obtain rfl : j = xps.length := by omega
          rw [List.take_of_length_le (Nat.le_refl _)] at hput hrl hvl
          have fz5 := (World.frozen?_of_block (w := w) (a := ⟨g, i * 6 + 5, none⟩) (hbz.block g hg)).trans z5
          generalize rtakeF nm xps = l0 at *
          subst hvl
          have HPUT := Lib.hid hput
          clear hput hbz
          go_wp2_with fail
          rw [HPE.out]
          go_ret
          exact r_putEnd H0.out HS.out (Below.refl _ _) HPUT.out HX.out (HPD.out _ _)
end
end Go.Proofs.YthjkdeocdhdkaaaGreat
