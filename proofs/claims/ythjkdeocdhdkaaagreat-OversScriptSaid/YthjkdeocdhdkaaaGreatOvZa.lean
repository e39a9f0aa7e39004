/- Overlays: the calls on a state that is known by its data; copyistkit's functions. -/
import Derived.Test.YthjkdeocdhdkaaaGreatOvZ
namespace Go.Proofs.YthjkdeocdhdkaaaGreat
open Go.RowKit
set_option linter.unusedVariables false
set_option linter.unusedSimpArgs false
section
variable {w w' W : World} {D : List OverD} {x : OverE} {L L' M : List OverE} {b : Nat} {pr ev nx : Int} {v v' : Value} {A A' : Option Addr} {S T : Nat → Prop}
/-- The set at block b holds D; what it owns lies in S. -/
def OSt (w : World) (b : Nat) (pr ev : Int) (D : List OverD) (nx : Int) (S : Nat → Prop) : Prop := ∃ v L, OvsAt w b pr ev v L nx ∧ L.map OverE.dat = D ∧ ∀ k ∈ footS b v L, S k
theorem OSt.up (h : OSt w b pr ev D nx S) (hb : Below w.heap.size w w') : OSt w' b pr ev D nx S := by
  obtain ⟨v, L, h1, h2, h3⟩ := h; exact ⟨v, L, h1.up hb, h2, h3⟩
theorem OSt.only (h : OSt w b pr ev D nx S) (ho : Only T w w') (hs : ∀ k, S k → k < w.heap.size → ¬ T k) : OSt w' b pr ev D nx S := by
  obtain ⟨v, L, h1, h2, h3⟩ := h
  exact ⟨v, L, h1.kept fun k hk => ho.block k (h1.lt hk) (hs k (h3 k hk) (h1.lt hk)), h2, h3⟩
theorem OSt.mono (h : OSt w b pr ev D nx S) (hs : ∀ k, S k → T k) : OSt w b pr ev D nx T := by
  obtain ⟨v, L, h1, h2, h3⟩ := h; exact ⟨v, L, h1, h2, fun k hk => hs k (h3 k hk)⟩
theorem OSt.blt (h : OSt w b pr ev D nx S) : b < w.heap.size := by obtain ⟨v, L, h1, _, _⟩ := h; exact h1.blt
def SPost (w : World) (b : Nat) (pr ev : Int) (S : Nat → Prop) (ret : Value) (D : List OverD) (nx : Int) (e : Ending) (w' : World) : Prop :=
  e = .returned ret ∧ ∃ S', OSt w' b pr ev D nx S' ∧ Only S w w' ∧ ∀ k, S' k → S k ∨ w.heap.size ≤ k
theorem OPost.st {ret : Value} {e : Ending} (h : OPost w b pr ev v L ret D nx e w') (hs : ∀ k ∈ footS b v L, S k) : SPost w b pr ev S ret D nx e w' := by
  obtain ⟨v', L', he, h1, h2, h3, h4⟩ := h
  exact ⟨he, fun k => k ∈ footS b v' L', ⟨v', L', h1, h2, fun k hk => hk⟩, h3.mono hs, fun k hk => (h4 k hk).imp (hs k) (fun h => h)⟩
theorem dat_good (hD : L.map OverE.dat = D) (h : WfD D nx) : (∀ x ∈ L, SortedP x.ps ∧ x.ps.length ≤ 64) ∧ (∀ x ∈ L, 1 ≤ x.f ∧ x.f ≤ 1099511627776 ∧ 1 ≤ x.t ∧ x.t ≤ 1099511627776) ∧ (L.map OverE.id).Nodup ∧ L.length ≤ 1024 := by
  have hg : ∀ x ∈ L, GoodX nx x.dat := fun x hx => h.good _ (by rw [← hD]; exact List.mem_map.2 ⟨x, hx, rfl⟩)
  refine ⟨fun x hx => ⟨(hg x hx).ps.1, (hg x hx).ps.2.1⟩, fun x hx => ?_, ?_, ?_⟩
  · have g := hg x hx
    have a1 : 1 ≤ x.f := g.f0
    have a2 : x.f ≤ x.t := g.ft
    have a3 : x.t ≤ 1099511627776 := g.t1
    omega
  · have := h.nodup
    rw [← hD, List.map_map] at this
    exact this
  · have := h.len
    rw [← hD, List.length_map] at this
    exact this
theorem s_add (h : OSt w b pr ev D nx S) (hw : WfD D nx) (f t : Int) (fr re : Bool) (hn : nx ≤ 1000000000) :
    Calls Tryz.prog 27 #[.pointer (some ⟨b, 0, none⟩), .int .i64 f, .int .i64 t, .bool fr, .bool re] w (SPost w b pr ev S (.tuple #[.int .i64 (addR D nx f t), .int .i64 (addE D f t)]) (addD D nx f t fr re) (addN D nx f t)) := by
  obtain ⟨v, L, h1, rfl, h3⟩ := h
  exact (oadd h1 f t fr re hw.nx0 hn).mono fun e w' hp => hp.st h3
theorem s_drop (h : OSt w b pr ev D nx S) (hw : WfD D nx) (id : Int) :
    Calls Tryz.prog 33 #[.pointer (some ⟨b, 0, none⟩), .int .i64 id] w (SPost w b pr ev S (.int .i64 (dropE D id)) (dropD D id) nx) := by
  obtain ⟨v, L, h1, rfl, h3⟩ := h
  obtain ⟨g1, g2, g3, g4⟩ := dat_good rfl hw
  exact (odrop h1 g3 id (by omega)).mono fun e w' hp => hp.st h3
theorem s_move (h : OSt w b pr ev D nx S) (hw : WfD D nx) (id f t : Int) :
    Calls Tryz.prog 34 #[.pointer (some ⟨b, 0, none⟩), .int .i64 id, .int .i64 f, .int .i64 t] w (SPost w b pr ev S (.int .i64 (moveE D id f t)) (moveD D id f t) nx) := by
  obtain ⟨v, L, h1, rfl, h3⟩ := h
  obtain ⟨g1, g2, g3, g4⟩ := dat_good rfl hw
  exact (omove h1 id f t (by omega)).mono fun e w' hp => hp.st h3
theorem s_put (h : OSt w b pr ev D nx S) (hw : WfD D nx) (id nm k n : Int) :
    Calls Tryz.prog 28 #[.pointer (some ⟨b, 0, none⟩), .int .i64 id, .int .i64 nm, .agg #[.int .i64 k, .int .i64 n]] w (SPost w b pr ev S (.int .i64 (putE D id nm)) (putD D id nm k n) nx) := by
  obtain ⟨v, L, h1, rfl, h3⟩ := h
  obtain ⟨g1, g2, g3, g4⟩ := dat_good rfl hw
  exact (oput h1 g1 id nm k n (by omega)).mono fun e w' hp => hp.st h3
theorem s_take (h : OSt w b pr ev D nx S) (hw : WfD D nx) (id nm : Int) :
    Calls Tryz.prog 35 #[.pointer (some ⟨b, 0, none⟩), .int .i64 id, .int .i64 nm] w (SPost w b pr ev S (.int .i64 (takeE D id nm)) (takeD D id nm) nx) := by
  obtain ⟨v, L, h1, rfl, h3⟩ := h
  obtain ⟨g1, g2, g3, g4⟩ := dat_good rfl hw
  exact (otake h1 g1 id nm (by omega)).mono fun e w' hp => hp.st h3
theorem s_ins (h : OSt w b pr ev D nx S) (hw : WfD D nx) (at_ n : Int) :
    Calls Tryz.prog 36 #[.pointer (some ⟨b, 0, none⟩), .int .i64 at_, .int .i64 n] w (SPost w b pr ev S (.int .i64 (insE D at_ n)) (insertedD D at_ n) nx) := by
  obtain ⟨v, L, h1, rfl, h3⟩ := h
  obtain ⟨g1, g2, g3, g4⟩ := dat_good rfl hw
  exact (oinserted h1 at_ n g2 (by omega)).mono fun e w' hp => hp.st h3
def SPostS (w : World) (b : Nat) (pr ev : Int) (S : Nat → Prop) (ids : List Int) (er : Int) (D : List OverD) (nx : Int) (e : Ending) (w' : World) : Prop :=
  ∃ gv, e = .returned (.tuple #[gv, .int .i64 er]) ∧ ROwn encI 3 1 w.heap.size w' gv ids ∧ ∃ S', OSt w' b pr ev D nx S' ∧ Only S w w' ∧ ∀ k, S' k → S k ∨ w.heap.size ≤ k ∧ gv.ownBlock ≠ some k
theorem s_del (h : OSt w b pr ev D nx S) (hw : WfD D nx) (f t : Int) :
    Calls Tryz.prog 31 #[.pointer (some ⟨b, 0, none⟩), .int .i64 f, .int .i64 t] w (SPostS w b pr ev S (delI ev f t D) (delE f t) (delD ev f t D) nx) := by
  obtain ⟨v, L, h1, rfl, h3⟩ := h
  obtain ⟨g1, g2, g3, g4⟩ := dat_good rfl hw
  refine (odel h1 f t g2 g1 g3 (by omega)).mono ?_
  rintro e w' ⟨gv, v', L', he, ho, h4, h5, h6, h7⟩
  exact ⟨gv, he, ho, fun k => k ∈ footS b v' L', ⟨v', L', h4, h5, fun k hk => hk⟩, h6.mono h3, fun k hk => (h7 k hk).imp (h3 k) (fun h => h)⟩
theorem s_ends (h : OSt w b pr ev D nx S) (hw : WfD D nx) (id : Int) : Calls Tryz.prog 22 #[.pointer (some ⟨b, 0, none⟩), .int .i64 id] w fun e w' => e = .returned (endsV (endsD D id)) ∧ Below w.heap.size w w' := by
  obtain ⟨v, L, h1, rfl, h3⟩ := h
  obtain ⟨g1, g2, g3, g4⟩ := dat_good rfl hw
  exact oends h1 id (by omega)
theorem s_get (h : OSt w b pr ev D nx S) (hw : WfD D nx) (id nm : Int) : Calls Tryz.prog 20 #[.pointer (some ⟨b, 0, none⟩), .int .i64 id, .int .i64 nm] w fun e w' => e = .returned (wordV (getD D id nm)) ∧ Below w.heap.size w w' := by
  obtain ⟨v, L, h1, rfl, h3⟩ := h
  obtain ⟨g1, g2, g3, g4⟩ := dat_good rfl hw
  exact oget h1 (fun x hx => ⟨(g1 x hx).1, by have := (g1 x hx).2; omega⟩) id nm (by omega)
theorem s_many (h : OSt w b pr ev D nx S) : Calls Tryz.prog 13 #[.pointer (some ⟨b, 0, none⟩)] w fun e w' => e = .returned (.int .i64 D.length) ∧ w = w' := by
  obtain ⟨v, L, h1, rfl, h3⟩ := h
  rw [List.length_map]
  exact omany h1
theorem s_at (h : OSt w b pr ev D nx S) (hw : WfD D nx) (at_ : Int) : Calls Tryz.prog 14 #[.pointer (some ⟨b, 0, none⟩), .int .i64 at_] w (IsPost w (atI pr D at_)) := by
  obtain ⟨v, L, h1, rfl, h3⟩ := h
  obtain ⟨g1, g2, g3, g4⟩ := dat_good rfl hw
  exact oat h1 g1 g3 (by omega) at_
theorem s_in (h : OSt w b pr ev D nx S) (hw : WfD D nx) (f t : Int) : Calls Tryz.prog 16 #[.pointer (some ⟨b, 0, none⟩), .int .i64 f, .int .i64 t] w (IsPost w (inI pr D f t)) := by
  obtain ⟨v, L, h1, rfl, h3⟩ := h
  obtain ⟨g1, g2, g3, g4⟩ := dat_good rfl hw
  exact oin h1 g1 g3 (by omega) f t
theorem s_all (h : OSt w b pr ev D nx S) (hw : WfD D nx) : Calls Tryz.prog 11 #[.pointer (some ⟨b, 0, none⟩)] w (AllPost w D) := by
  obtain ⟨v, L, h1, rfl, h3⟩ := h
  obtain ⟨g1, g2, g3, g4⟩ := dat_good rfl hw
  exact oall h1 (fun x hx => by have := (g1 x hx).2; omega) (by omega)
theorem s_new (pr ev : Int) (w : World) : Calls Tryz.prog 5 #[.int .i64 pr, .int .i64 ev] w fun e w' => ∃ b, e = .returned (.pointer (some ⟨b, 0, none⟩)) ∧ OSt w' b pr ev [] 0 (fun k => w.heap.size ≤ k) ∧ Below w.heap.size w w' :=
  (onew_any pr ev w).mono fun e w' ⟨b, he, hb, h1, h2⟩ => ⟨b, he, ⟨_, [], h1, rfl, fun k hk => by
    rcases foot_cases hk with rfl | h3 | ⟨x, hx, _⟩
    · exact hb
    · cases h3
    · simp at hx⟩, h2⟩
/-- Sorted, uniquely. -/
theorem sortD_eq {pr : Int} {D M : List OverD} (hn : (D.map OverD.id).Nodup) (hp : M.Perm D) (hs : M.Pairwise (fun x y => cfD pr x y < 0)) : sortD pr D = M := by
  unfold sortD
  have h1 := List.pairwise_mergeSort (le := leD pr) (leD_trans pr) (leD_total pr) D
  have h2 : M.Pairwise (fun x y => leD pr x y = true) := hs.imp fun h => by
    simp only [leD, Bool.not_eq_true', decide_eq_false_iff_not, cfD_lt] at h ⊢; omega
  refine List.Perm.eq_of_pairwise (fun x y hx hy h3 h4 => ?_) h1 h2 ((List.mergeSort_perm _ _).trans hp.symm)
  have hid : x.id = y.id := by
    simp only [leD, Bool.not_eq_true', decide_eq_false_iff_not, cfD_lt] at h3 h4; omega
  have hxm := (List.mergeSort_perm D (leD pr)).mem_iff.1 hx
  have hym := hp.mem_iff.1 hy
  obtain ⟨i, hi⟩ := List.mem_iff_getElem?.1 hxm
  obtain ⟨j, hj⟩ := List.mem_iff_getElem?.1 hym
  obtain ⟨hi1, he1⟩ := List.getElem?_eq_some_iff.1 hi
  obtain ⟨hj1, he2⟩ := List.getElem?_eq_some_iff.1 hj
  have hij : i = j := (List.getElem_inj (xs := D.map OverD.id) (h₀ := by simpa using hi1) (h₁ := by simpa using hj1) hn).1 (by simp [he1, he2, hid])
  subst hij
  rw [hi] at hj
  exact Option.some.inj hj
theorem sortD_perm (pr : Int) (D : List OverD) : (sortD pr D).Perm D := List.mergeSort_perm _ _
theorem sortD_pw {pr : Int} {D : List OverD} (hn : (D.map OverD.id).Nodup) : (sortD pr D).Pairwise (fun x y => cfD pr x y < 0) := by
  have h1 := List.pairwise_mergeSort (le := leD pr) (leD_trans pr) (leD_total pr) D
  have h2 : ((sortD pr D).map OverD.id).Nodup := ((sortD_perm pr D).map OverD.id).nodup_iff.2 hn
  unfold List.Nodup at h2
  rw [List.pairwise_map] at h2
  refine (h1.and h2).imp ?_
  rintro x y ⟨h3, h4⟩
  simp only [leD, Bool.not_eq_true', decide_eq_false_iff_not, cfD_lt] at h3 ⊢
  omega
/-! ### copyistkit -/
theorem same_take {l : List Int} {l' : List Int} (hl : l.length = l'.length) (h : ∀ (j : Nat) (x y : Int), l[j]? = some x → l'[j]? = some y → x = y) : l = l' := by
  apply List.ext_getElem? 
  intro j
  by_cases hj : j < l.length
  · obtain ⟨x, hx⟩ : ∃ x, l[j]? = some x := ⟨_, List.getElem?_eq_getElem hj⟩
    obtain ⟨y, hy⟩ : ∃ y, l'[j]? = some y := ⟨_, List.getElem?_eq_getElem (by omega)⟩
    rw [hx, hy, h j x y hx hy]
  · rw [List.getElem?_eq_none (by omega), List.getElem?_eq_none (by omega)]
set_option maxRecDepth 100000 in
set_option maxHeartbeats 1000000 in
theorem same_any {l l' : List Int} (h : RSl encI w A l) (h' : RSl encI w A' l') (c c' : Nat) (hl : l.length ≤ 1000000) (hl' : l'.length ≤ 1000000) :
    Calls Tryz.prog 9 #[.slice A l.length c, .slice A' l'.length c'] w fun e w' => e = .returned (.bool (decide (l = l'))) ∧ Below w.heap.size w w' := by
  have H := Lib.hid h
  have H' := Lib.hid h'
  clear h h'
  by_cases he : l.length = l'.length
  · have he2 : ((l.length : Int) != l'.length) = false := by simp [he]
    have HE := Lib.hid he
    clear he
    go_enter Tryz.func9, Tryz.ntmps9
    go_wp2_with fail
    go_loopw [5] (fun vi wr => ∃ k : Nat, k ≤ l.length ∧ vi = .int .i64 k ∧ (∀ (j : Nat) (x y : Int), j < k → l[j]? = some x → l'[j]? = some y → x = y) ∧ Below w.heap.size w wr) (fun vi _ => l.length - (intOf vi).toNat)
    case atStart => exact ⟨0, by omega, rfl, fun j x y hj => by omega, Below.refl _ _⟩
    case round =>
      obtain ⟨k, hk, rfl, hs, hb⟩ := hrel
      have HS := Lib.hid hs
      have HB := Lib.hid hb
      clear hs hb
      by_cases hlt : k < l.length
      · obtain ⟨x, hx⟩ : ∃ x, l[k]? = some x := ⟨_, List.getElem?_eq_getElem hlt⟩
        obtain ⟨y, hy⟩ : ∃ y, l'[k]? = some y := ⟨_, List.getElem?_eq_getElem (by have := HE.out; omega)⟩
        obtain ⟨g, o, hAe, hg, hc⟩ := (H.out.up HB.out).at_ eltI hx
        obtain ⟨g', o', hAe', hg', hc'⟩ := (H'.out.up HB.out).at_ eltI hy
        subst hAe hAe'
        have k0 := hc 0 _ rfl
        have k1 := hc' 0 _ rfl
        simp only [Nat.mul_one, Nat.add_zero] at k0 k1
        have hlt' : (k : Int) < l.length := by omega
        have hlt2 : (k : Int) < l'.length := by have := HE.out; omega
        have HX := Lib.hid hx
        have HY := Lib.hid hy
        clear hx hy hc hc'
        by_cases hxy : x = y
        · subst hxy
          go_wp2_with fail
          go_quiet (fail)
          go_wp2_with fail
          go_roundw
          case rel =>
            refine ⟨k + 1, by omega, by go_num, fun j u u' hj hu hu' => ?_, have bb := HB.out; ⟨bb.os, bb.tape, bb.output, bb.size, bb.block⟩⟩
            rcases Nat.lt_or_ge j k with h1 | h1
            · exact HS.out j u u' h1 hu hu'
            · obtain rfl : j = k := by omega
              rw [HX.out] at hu; rw [HY.out] at hu'; cases hu; cases hu'; rfl
          case measure => simp [intOf]; omega
        · have hne : (x != y) = true := by simpa using hxy
          have hneq : decide (l = l') = false := decide_eq_false fun e => hxy (by have h1 := HX.out; rw [e, HY.out] at h1; exact (Option.some.inj h1).symm)
          have HN := Lib.hid hneq
          clear hxy hneq
          go_wp2_with fail
          go_quiet (fail)
          go_wp2_with fail
          go_ret
          exact ⟨ret_bool HN.out.symm, have bb := HB.out; ⟨bb.os, bb.tape, bb.output, bb.size, bb.block⟩⟩
      · obtain rfl : k = l.length := by omega
        have heq : decide (l = l') = true := decide_eq_true (same_take HE.out fun j x y hx hy => HS.out j x y (List.getElem?_eq_some_iff.1 hx).1 hx hy)
        have HN := Lib.hid heq
        clear heq
        go_wp2_with fail
        go_ret
        exact ⟨ret_bool HN.out.symm, HB.out⟩
  · have he2 : ((l.length : Int) != l'.length) = true := by simp; omega
    have hd : decide (l = l') = false := decide_eq_false fun e => he (by rw [e])
    rw [hd]
    clear he hd
    go_enter Tryz.func9, Tryz.ntmps9
    go_wp2_with fail
    go_ret
    exact ⟨rfl, Below.refl _ _⟩
set_option maxHeartbeats 400000 in
theorem kint_any (n : Int) (w : World) : Calls Tryz.prog 29 #[.int .i64 n] w fun e w' => e = .returned (.agg #[.int .i64 0, .int .i64 n]) ∧ Below w.heap.size w w' := by
  go_enter Tryz.func29, Tryz.ntmps29
  go_wp2
  refine bodyPost_ret (v := .agg #[.int .i64 0, .int .i64 n]) (by simp [results, Tryz.f29, go_sem]) rfl ⟨rfl, ?_⟩
  exact below1 _ _
set_option maxHeartbeats 400000 in
theorem ksym_any (n : Int) (w : World) : Calls Tryz.prog 59 #[.int .i64 n] w fun e w' => e = .returned (.agg #[.int .i64 1, .int .i64 n]) ∧ Below w.heap.size w w' := by
  go_enter Tryz.func59, Tryz.ntmps59
  go_wp2
  refine bodyPost_ret (v := .agg #[.int .i64 1, .int .i64 n]) (by simp [results, Tryz.f59, go_sem]) rfl ⟨rfl, ?_⟩
  exact below1 _ _
set_option maxHeartbeats 400000 in
theorem kt_any (w : World) : Calls Tryz.prog 30 #[] w fun e w' => e = .returned (.agg #[.int .i64 1, .int .i64 1]) ∧ Below w.heap.size w w' := by
  go_enter Tryz.func30, Tryz.ntmps30
  go_wp2_with fail
  refine (ksym_any 1 _).mono ?_
  rintro e w1 ⟨rfl, hb⟩
  have hz := hb.size
  have k0 := hb.cell (p := ⟨w.heap.size, 0, none⟩) (by simp)
  have k1 := hb.cell (p := ⟨w.heap.size, 1, none⟩) (by simp)
  have kf := fun o => hb.frozen (p := ⟨w.heap.size, o, none⟩) (by simp)
  simp at k0 k1 kf
  have HB := Lib.hid (up2 (below1 _ _) hb)
  clear hb hz
  go_wp2_with fail
  refine bodyPost_ret (v := .agg #[.int .i64 1, .int .i64 1]) (by simp [results, Tryz.f30, go_sem, k0, k1]) rfl ⟨rfl, ?_⟩
  exact ((HB.out.setCell (p := ⟨w.heap.size, 0, none⟩) (Nat.le_refl _) _).setCell (p := ⟨w.heap.size, 1, none⟩) (Nat.le_refl _) _)
end
/-- What copyistkit.Pick hands back. -/
def pickI (n most : Int) : Int := if most ≤ 0 then 0 else n % most
theorem pick_pos (n most : Int) (h : 0 < most) : 0 ≤ pickI n most ∧ pickI n most < most := by
  unfold pickI; rw [if_neg (by omega)]; exact ⟨Int.emod_nonneg _ (by omega), Int.emod_lt_of_pos _ h⟩

set_option maxHeartbeats 400000 in
theorem pick_any (n most : Int) (w : World) (h1 : 0 < most) (h2 : most ≤ 1000000) :
    Calls Tryz.prog 32 #[.int .i64 n, .int .i64 most] w fun e w' => e = .returned (.int .i64 (pickI n most)) ∧ w = w' := by
  have e1 : pickI n most = if n.tmod most < 0 then n.tmod most + most else n.tmod most := by
    unfold pickI
    rw [if_neg (by omega), Int.emod_eq_tmod]
    have hn : (most.natAbs : Int) = most := by omega
    by_cases h0 : 0 ≤ n
    · have := Int.tmod_nonneg most h0
      rw [if_pos (.inl h0), if_neg (by omega)]; omega
    · have hle : n.tmod most ≤ 0 := by
        have := Int.tmod_nonneg most (a := -n) (by omega)
        rw [Int.neg_tmod] at this; omega
      by_cases hd : most ∣ n
      · have := Int.tmod_eq_zero_of_dvd hd
        rw [if_pos (.inr hd), this]; simp
      · have hne : n.tmod most ≠ 0 := fun h => hd (Int.dvd_of_tmod_eq_zero h)
        rw [if_neg (by simp [hd]; omega), if_pos (by omega), hn]
  have b1 : -most < n.tmod most := by have := Int.lt_tmod_of_pos n h1; omega
  have b2 : n.tmod most < most := Int.tmod_lt_of_pos n h1
  have H1 := Lib.hid e1
  clear e1
  have hz : ¬ most = 0 := by omega
  by_cases hneg : n.tmod most < 0
  all_goals
    go_enter Tryz.func32, Tryz.ntmps32
    go_wp2
    go_ret
    exact ⟨ret_int (by rw [H1.out]; first | rw [if_pos (by omega)] | rw [if_neg (by omega)]), rfl⟩

end Go.Proofs.YthjkdeocdhdkaaaGreat
