/- Registers: the reference's Get, Names. -/
import Derived.Test.YtmnmloebomlllaaDoorKgK
namespace Go.Proofs.YtmnmloebomlllaaDoor
open Go.RowKit
set_option linter.unusedVariables false
set_option linter.unusedSimpArgs false
section
variable {w w' : World} {bo : Nat} {v : Value} {l : List (Int × Reg)}
theorem isL_at {α : Type} {l : List (Int × α)} {c : Int} (h : isL l c = true) : ∃ x, l[ixL l c]? = some (c, x) := by
  unfold isL at h
  cases hx : l[ixL l c]? with
  | none => rw [hx] at h; cases h
  | some p => rw [hx] at h; obtain ⟨a, x⟩ := p; simp at h; subst h; exact ⟨x, rfl⟩
theorem ixL_before {α : Type} : ∀ (l : List (Int × α)) (c : Int) (j : Nat) (x : Int × α), j < ixL l c → l[j]? = some x → x.1 < c
  | [], c, j, x, hj, _ => by simp [ixL] at hj
  | a :: l, c, j, x, hj, hx => by
    unfold ixL at hj
    rw [List.takeWhile_cons] at hj
    by_cases h : a.1 < c
    · rw [if_pos (by simpa using h), List.length_cons] at hj
      cases j with
      | zero => simp at hx; subst hx; exact h
      | succ j => exact ixL_before l c j x (by unfold ixL; omega) (by simpa using hx)
    · rw [if_neg (by simpa using h)] at hj; simp at hj
theorem ixL_after {α : Type} {l : List (Int × α)} (hs : (l.map (·.1)).Pairwise (· < ·)) {c : Int} {j : Nat} {x : Int × α} (hj : ixL l c ≤ j) (hx : l[j]? = some x) : c ≤ x.1 := by
  induction l generalizing j with
  | nil => simp at hx
  | cons a l ih =>
    rw [List.map_cons, List.pairwise_cons] at hs
    unfold ixL at hj
    rw [List.takeWhile_cons] at hj
    by_cases h : a.1 < c
    · rw [if_pos (by simpa using h), List.length_cons] at hj
      cases j with
      | zero => omega
      | succ j => exact ih hs.2 (j := j) (by unfold ixL; omega) (by simpa using hx)
    · cases j with
      | zero => simp at hx; subst hx; omega
      | succ j =>
        have hm : x ∈ l := List.mem_of_getElem? (by simpa using hx)
        have := hs.1 x.1 (List.mem_map.2 ⟨x, hm, rfl⟩)
        omega
theorem nodup_of_sorted {ks : List Int} (h : ks.Pairwise (· < ·)) : ks.Nodup := h.imp fun h => by omega
theorem lookM_sorted {α : Type} {l : List (Int × α)} (hs : (l.map (·.1)).Pairwise (· < ·)) (c : Int) : lookM l c = if isL l c then (l[ixL l c]?).map (·.2) else none := by
  by_cases h : isL l c = true
  · rw [if_pos h]
    obtain ⟨x, hx⟩ := isL_at h
    rw [hx, lookM_of_mem (nodup_of_sorted hs) (List.mem_of_getElem? hx)]; rfl
  · rw [if_neg h, lookM_none]
    intro p hp e
    obtain ⟨j, hj, he⟩ := List.getElem_of_mem hp
    have hx : l[j]? = some p := by rw [List.getElem?_eq_getElem hj, he]
    rcases Nat.lt_or_ge j (ixL l c) with h1 | h1
    · have := ixL_before l c j p h1 hx; omega
    · rcases Nat.eq_or_lt_of_le h1 with h2 | h2
      · apply h; unfold isL; rw [h2, hx]; simp [e]
      · have hlen : ixL l c < l.length := by have := (List.getElem?_eq_some_iff.1 hx).1; omega
        obtain ⟨q, hq⟩ : ∃ q, l[ixL l c]? = some q := ⟨_, List.getElem?_eq_getElem hlen⟩
        have h3 := ixL_after hs (Nat.le_refl _) hq
        have h4 := List.pairwise_iff_getElem.1 hs (ixL l c) j (by simpa using hlen) (by simpa using hj) h2
        rw [List.getElem_map, List.getElem_map] at h4
        have e1 : l[ixL l c] = q := by rw [List.getElem?_eq_getElem hlen] at hq; exact Option.some.inj hq
        rw [e1, he] at h4
        omega
set_option maxRecDepth 100000 in
set_option maxHeartbeats 1000000 in
theorem rget_no (h : RefR w bo v l) {c : Int} (hx : isL l c = false) (hl : l.length ≤ 1000000) : Calls Tryd.prog 31 #[.pointer (some ⟨bo, 0, none⟩), .int .i64 c] w (GetPost w none) := by
  have HF := Lib.hid (hx ▸ rgfind (h.up (below1 w (.cells #[.int .i64 0, .int .i64 0, .int .i64 0, .string ⟨#[]⟩, .slice none 0 0] 56))) c hl)
  clear hx h
  go_enter Tryd.func31, Tryd.ntmps31
  go_wp2_with fail
  refine HF.out.mono ?_
  rintro e w1 ⟨rfl, hb⟩
  have hz := hb.size
  have k0 := hb.cell (p := ⟨w.heap.size, 0, none⟩) (by simp)
  have k1 := hb.cell (p := ⟨w.heap.size, 1, none⟩) (by simp)
  have k2 := hb.cell (p := ⟨w.heap.size, 2, none⟩) (by simp)
  have k3 := hb.cell (p := ⟨w.heap.size, 3, none⟩) (by simp)
  have k4 := hb.cell (p := ⟨w.heap.size, 4, none⟩) (by simp)
  have kf := fun o => hb.frozen (p := ⟨w.heap.size, o, none⟩) (by simp)
  simp at hz k0 k1 k2 k3 k4 kf
  have HB := Lib.hid (up2 (below1 _ _) hb)
  clear hb
  go_wp2_with fail
  refine bodyPost_ret (v := .tuple #[regV ⟨0, 0, 0, ⟨#[]⟩, none, 0, []⟩, .bool false]) (by simp [results, Tryd.f31, go_sem, k0, k1, k2, k3, k4, kf]) rfl ⟨⟨0, 0, 0, ⟨#[]⟩, none, 0, []⟩, false, rfl, RegIn.none _ _ _ _ _, RegFresh.none _ _ _ _ _, ?_, rfl, rfl⟩
  repeat (refine set_below ?_ _ _ _ (by omega))
  exact HB.out
set_option maxRecDepth 100000 in
set_option maxHeartbeats 1000000 in
theorem rget_yes (h : RefR w bo v l) {c : Int} (hx : isL l c = true) (hl : l.length ≤ 1000000) {x : Reg} (hi : l[ixL l c]? = some (c, x)) : Calls Tryd.prog 31 #[.pointer (some ⟨bo, 0, none⟩), .int .i64 c] w (GetPost w (some x.con)) := by
  have HF := Lib.hid (hx ▸ rgfind (h.up (below1 w (.cells #[.int .i64 0, .int .i64 0, .int .i64 0, .string ⟨#[]⟩, .slice none 0 0] 56))) c hl)
  have H := Lib.hid h
  have HI := Lib.hid hi
  have hin := h.regs _ (List.mem_of_getElem? hi)
  have hok := h.ok _ (List.mem_of_getElem? hi)
  have hil := (List.getElem?_eq_some_iff.1 hi).1
  obtain ⟨k, n, id, t, A, cc, rows⟩ := x
  generalize ixL l c = i at *
  clear hx h hi
  go_enter Tryd.func31, Tryd.ntmps31
  go_wp2_with fail
  refine HF.out.mono ?_
  rintro e w1 ⟨rfl, hb⟩
  have hz := hb.size
  have k0 := hb.cell (p := ⟨w.heap.size, 0, none⟩) (by simp)
  have k1 := hb.cell (p := ⟨w.heap.size, 1, none⟩) (by simp)
  have k2 := hb.cell (p := ⟨w.heap.size, 2, none⟩) (by simp)
  have k3 := hb.cell (p := ⟨w.heap.size, 3, none⟩) (by simp)
  have k4 := hb.cell (p := ⟨w.heap.size, 4, none⟩) (by simp)
  have kf := fun o => hb.frozen (p := ⟨w.heap.size, o, none⟩) (by simp)
  simp at hz k0 k1 k2 k3 k4 kf
  have hb1 := up2 (below1 _ _) hb
  have HB := Lib.hid hb1
  have h1 := H.out.up hb1
  obtain ⟨g, cap, rfl, _, _, _, hgl, _, hcs⟩ := h1.own.lies eltQ (by omega)
  have c0 := h1.c0
  have q1 := hcs i _ 1 _ HI.out rfl
  have q2 := hcs i _ 2 _ HI.out rfl
  have q3 := hcs i _ 3 _ HI.out rfl
  have q4 := hcs i _ 4 _ HI.out rfl
  have q5 := hcs i _ 5 _ HI.out rfl
  have hil' : (i : Int) < l.length := by omega
  have h0 := ROwn.empty (enc := encS) (E := 9) (k := 1) (w1.alloc (.cells #[.int .i64 k, .int .i64 n, .int .i64 id, .string t, .slice A rows.length cc] 56)).heap.size (w1.alloc (.cells #[.int .i64 k, .int .i64 n, .int .i64 id, .string t, .slice A rows.length cc] 56)) (Nat.le_refl _)
  have hr1 : RSl encS w1 A rows := (hin.up hb1).i
  obtain ⟨v', w2, happ, hown', hg, _⟩ := append_run eltS h0 (by simp) ((hr1.up (below1 _ _)).up (below1 _ _)) cc (by have := hok.l; simp at this ⊢; omega) (by omega)
  rw [List.nil_append] at hown'
  obtain ⟨A', c', rfl, hlc, hcm, hr⟩ := hown'.shape eltS
  have hb2 := (below1 (w1.alloc (.cells #[.int .i64 k, .int .i64 n, .int .i64 id, .string t, .slice A rows.length cc] 56)) (.cells #[] 9)).grown hg (by simp) (fun k hk => h0.base hk)
  have hz2 := hb2.size
  have m0 := hb2.cell (p := ⟨w1.heap.size, 0, none⟩) (by simp)
  have m1 := hb2.cell (p := ⟨w1.heap.size, 1, none⟩) (by simp)
  have m2 := hb2.cell (p := ⟨w1.heap.size, 2, none⟩) (by simp)
  have m3 := hb2.cell (p := ⟨w1.heap.size, 3, none⟩) (by simp)
  have m4 := hb2.cell (p := ⟨w1.heap.size, 4, none⟩) (by simp)
  have mf := fun o => hb2.frozen (p := ⟨w1.heap.size, o, none⟩) (by simp)
  have n0 := (hb2.cell (p := ⟨w.heap.size, 0, none⟩) (by simp; omega)).trans (((below1 w1 _).cell (p := ⟨w.heap.size, 0, none⟩) (by simp; omega)).trans k0)
  have n1 := (hb2.cell (p := ⟨w.heap.size, 1, none⟩) (by simp; omega)).trans (((below1 w1 _).cell (p := ⟨w.heap.size, 1, none⟩) (by simp; omega)).trans k1)
  have n2 := (hb2.cell (p := ⟨w.heap.size, 2, none⟩) (by simp; omega)).trans (((below1 w1 _).cell (p := ⟨w.heap.size, 2, none⟩) (by simp; omega)).trans k2)
  have n3 := (hb2.cell (p := ⟨w.heap.size, 3, none⟩) (by simp; omega)).trans (((below1 w1 _).cell (p := ⟨w.heap.size, 3, none⟩) (by simp; omega)).trans k3)
  have n4 := (hb2.cell (p := ⟨w.heap.size, 4, none⟩) (by simp; omega)).trans (((below1 w1 _).cell (p := ⟨w.heap.size, 4, none⟩) (by simp; omega)).trans k4)
  have nf := fun o => (hb2.frozen (p := ⟨w.heap.size, o, none⟩) (by simp; omega)).trans (((below1 w1 _).frozen (p := ⟨w.heap.size, o, none⟩) (by simp; omega)).trans (kf o))
  simp at hz2 m0 m1 m2 m3 m4 mf
  simp only [World.size_alloc] at happ
  have HB2 := Lib.hid (up2 (up2 HB.out (below1 _ _)) hb2)
  have HO := Lib.hid hown'
  have HR := Lib.hid hr
  have HP := Lib.hid happ
  clear happ hb hb2 hcs h1 hb1 hin hok hown' hr hr1 h0 hg
  go_wp2_with (at_builtin; refine wpList_app_run rfl _ _ _ rfl rfl rfl HP.out ?_)
  have hne1 : w.heap.size ≠ w1.heap.size := by omega
  refine bodyPost_ret (v := .tuple #[regV ⟨k, n, id, t, A', c', rows⟩, .bool true]) (by simp [results, Tryd.f31, go_sem, n0, n1, n2, n3, n4, nf]) rfl ⟨⟨k, n, id, t, A', c', rows⟩, true, rfl, ⟨?_, hlc, hcm⟩, ?_, ?_, rfl, rfl⟩
  · have hne : ∀ n, n ≤ w1.heap.size → 0 < rows.length → ∀ g o, A' = some ⟨g, o, none⟩ → g ≠ n := fun n hn hp g o e => by have h1 := HO.out.base (g := g) (by rw [e]; rfl); simp at h1; omega
    have h1 := HR.out.set w1.heap.size 4 (.slice A' rows.length c') (hne _ (by omega))
    exact ((((h1.set w.heap.size 0 _ (hne _ (by omega))).set w.heap.size 1 _ (hne _ (by omega))).set w.heap.size 2 _ (hne _ (by omega))).set w.heap.size 3 _ (hne _ (by omega))).set w.heap.size 4 _ (hne _ (by omega))
  · intro hp g o e
    replace e : A' = some ⟨g, o, .none⟩ := e
    have h1 := HO.out.base (g := g) (by rw [e]; rfl)
    simp at h1
    show w.heap.size ≤ g
    omega
  · repeat (refine set_below ?_ _ _ _ (by omega))
    exact HB2.out
theorem rget_any (h : RefR w bo v l) (c : Int) (hl : l.length ≤ 1000000) : Calls Tryd.prog 31 #[.pointer (some ⟨bo, 0, none⟩), .int .i64 c] w (GetPost w ((lookM l c).map Reg.con)) := by
  rw [lookM_sorted h.sorted]
  cases hx : isL l c with
  | false => rw [if_neg (by decide)]; exact rget_no h hx hl
  | true =>
    rw [if_pos rfl]
    obtain ⟨x, hi⟩ := isL_at hx
    rw [hi]
    exact rget_yes h hx hl hi
set_option maxRecDepth 100000 in
set_option maxHeartbeats 1000000 in
theorem rnames_any (h : RefR w bo v l) (hl : l.length ≤ 1000000) : Calls Tryd.prog 35 #[.pointer (some ⟨bo, 0, none⟩)] w (IsPost w (l.map (·.1))) := by
  obtain ⟨A, cp, rfl, hA1, hA2, hAs⟩ := h.own.shape eltQ
  have hlt := h.lt
  have H := Lib.hid h
  have HAs := Lib.hid hAs
  clear h hAs
  go_enter Tryd.func35, Tryd.ntmps35
  go_wp2_with fail
  go_loopw [3, 4] (fun vo vi wr => ∃ k : Nat, k ≤ l.length ∧ vi = .int .i64 k ∧ ROwn encI 3 1 w.heap.size wr vo ((l.map (·.1)).take k) ∧ Below w.heap.size w wr) (fun _ vi _ => l.length - (intOf vi).toNat)
  case atStart => exact ⟨0, by omega, rfl, ROwn.nil _ _, Below.refl _ _⟩
  case round =>
    obtain ⟨k, hk, rfl, hown, hbel⟩ := hrel
    have c0 := (H.out.up hbel).c0
    by_cases hlt : k < l.length
    · obtain ⟨⟨jd, jx⟩, hy⟩ : ∃ y, l[k]? = some y := ⟨_, List.getElem?_eq_getElem (by omega)⟩
      obtain ⟨g, o, hAe, hg, hc⟩ := (HAs.out.up hbel).at_ eltQ hy
      have e0 := hc 0 _ rfl
      simp only [Nat.add_zero] at e0
      have hlt' : (k : Int) < l.length := by omega
      obtain ⟨v', w', happ, hown', hb', _, _⟩ := append_elem eltI hown hbel.size jd (by simp; omega) (by omega)
      obtain ⟨A1, c1, hv1, _, _, _⟩ := hown.shape eltI
      have hkl : ((l.map (·.1)).take k).length = k := by simp; omega
      rw [hkl] at hv1
      subst hv1
      obtain ⟨A2, c2, hv2, _, _, _⟩ := hown'.shape eltI
      have hk2 : ((l.map (·.1)).take k ++ [jd]).length = k + 1 := by simp; omega
      rw [hk2] at hv2
      have hsn : (l.map (·.1)).take k ++ [jd] = (l.map (·.1)).take (k + 1) := by
        rw [List.take_add_one, List.getElem?_map, hy]; rfl
      rw [hsn] at hown'
      have HO := Lib.hid hown'
      have HB := Lib.hid (hbel.trans hb')
      have HP := Lib.hid happ
      subst hAe
      clear hc hy hown hown' hb' happ hbel hsn hkl hk2
      subst hv2
      go_wp2_with (at_builtin; refine wpList_app_run rfl _ _ _ rfl rfl rfl HP.out ?_)
      go_roundw
      case rel => exact ⟨k + 1, by omega, by go_num, HO.out, HB.out⟩
      case measure => simp [intOf]; omega
    · obtain rfl : k = l.length := by omega
      obtain ⟨A1, c1, hv1, _, _, _⟩ := hown.shape eltI
      generalize (List.take l.length (l.map (·.1))).length = L1 at hv1
      subst hv1
      have HO := Lib.hid hown
      clear hown
      go_wp2_with fail
      go_ret
      exact ⟨_, rfl, by have := HO.out; rwa [List.take_of_length_le (by simp)] at this, hbel⟩
end
end Go.Proofs.YtmnmloebomlllaaDoor
