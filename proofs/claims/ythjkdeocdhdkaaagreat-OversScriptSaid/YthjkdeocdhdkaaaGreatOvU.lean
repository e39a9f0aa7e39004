/- Overlays: cmp.Or; the closure that orders two overlays. -/
import Derived.Test.YthjkdeocdhdkaaaGreatOvT
namespace Go.Proofs.YthjkdeocdhdkaaaGreat
open Go.RowKit
set_option linter.unusedVariables false
set_option linter.unusedSimpArgs false
section
variable {w w' : World} {x y : OverE} {b : Nat} {A : Option Addr}
/-- A world in which whatever lay below N in w0 lies as it lay; no draw is taken back. -/
structure UpD (N : Nat) (w0 : World) where
  w : World
  up : BelD N w0 w
instance UpD.some (N : Nat) (w0 : World) : Nonempty (UpD N w0) := ⟨⟨w0, BelD.refl N w0⟩⟩
theorem Calls.upd {P : Program} {f : FuncId} {args : Array Value} {N : Nat} {w0 : World} {v : Value} (x : UpD N w0) (hN : N ≤ w0.heap.size) (h : Calls P f args x.w fun e w' => e = .returned v ∧ BelD x.w.heap.size x.w w') :
    Calls P f args x.w fun e w'' => e = .returned v ∧ ∃ y : UpD N w0, w'' = y.w :=
  h.mono fun e w' ⟨he, hb⟩ => ⟨he, ⟨w', x.up.trans (hb.mono (Nat.le_trans hN x.up.size))⟩, rfl⟩
theorem Calls.upd_same {P : Program} {f : FuncId} {args : Array Value} {N : Nat} {w0 : World} {v : Value} (x : UpD N w0) (h : Calls P f args x.w fun e w' => e = .returned v ∧ x.w = w') :
    Calls P f args x.w fun e w'' => e = .returned v ∧ ∃ y : UpD N w0, w'' = y.w :=
  h.mono fun e w' ⟨he, hb⟩ => ⟨he, x, hb.symm⟩
/-- n operations quiet in that class, in whatever order; then the others, in the one order that is left to them. -/
theorem wp_region_upd_tail {P : Program} {id : Nat} {Q : Exit → Act → World → Prop} {a : Act} {w : World} {l : List Oper} (N n : Nat) (hm : P.follows .mixedOrders = true) (hB : Region.lexTailB .any l.toArray n = true)
    (h : wpQuiet P l.toArray (fun w' => ∃ x : UpD N w, w' = x.w) (fun a' => ∀ x : UpD N w, wpList P l.toArray Q (l.drop n) a' x.w) (l.take n) a) : (Code.region id l.toArray true).wp P Q a w := by
  simp only [Region.lexTailB, Bool.and_eq_true, decide_eq_true_eq] at hB
  obtain ⟨⟨⟨⟨hsel, hn⟩, hs⟩, hc⟩, hlex⟩ := hB
  have hn' : n < l.length := by simpa using hn
  have htl : (l.take n).length = n := by simp; omega
  have hdl : (l.drop n).length = l.toArray.size - n := by simp
  have inv0 : HeadInv .any l.toArray n (Array.replicate l.toArray.size false) :=
    ⟨by simp, fun j oj _ hl => (by rw [getD_replicate_false] at hl; cases hl), fun t _ ht => getD_in (by simpa using ht) (getD_replicate_false _ _)⟩
  have H := head_lex (md := .any) (g := l.toArray.size - n) hsel hs hc hn (l.take n) 0 _ a (fun j hj => by
    have hj' : j < n := by rw [htl] at hj; exact hj
    simp [hj']) (by simpa using htl) inv0 (by rw [htl]; exact hlex) h
  refine wp_region_any hm ?_
  have := any_of_head (Q := Q) (g := l.toArray.size - n) (fun listed a' w' hw hL => by
    obtain ⟨x, rfl⟩ := hw
    have := wpAny_of_seq (md := .any) (Q' := Q) (l.drop n) n listed a' x.w (fun j => by simp [List.getElem?_drop]) (by rw [hdl]; exact hL.1) (hL.2 x)
    rwa [hdl] at this) _ _ _ _ ⟨⟨w.drew, (BelD.refl N w).drew⟩, rfl⟩ H
  rw [htl, show n + (l.toArray.size - n) = l.toArray.size by omega] at this
  exact this
/-- The first number that is not 0, or 0. -/
def orL (l : List Int) : Int := (l.find? (fun z => z != 0)).getD 0
theorem orL_none {l : List Int} (h : ∀ (j : Nat) (z : Int), l[j]? = some z → z = 0) : orL l = 0 := by
  unfold orL
  rw [List.find?_eq_none.2 (fun z hz => by obtain ⟨j, hj⟩ := List.mem_iff_getElem?.1 hz; simp [h j z hj])]; rfl
theorem orL_some {l : List Int} {k : Nat} {z : Int} (hz : l[k]? = some z) (h0 : z ≠ 0) (h : ∀ (j : Nat) (u : Int), j < k → l[j]? = some u → u = 0) : orL l = z := by
  obtain ⟨hk, he⟩ := List.getElem?_eq_some_iff.1 hz
  unfold orL
  have : l.find? (fun z => z != 0) = some z := by
    rw [List.find?_eq_some_iff_getElem]
    exact ⟨by simpa using h0, k, hk, he, fun j hj => by simpa using h j _ hj (List.getElem?_eq_getElem (by omega))⟩
  rw [this]; rfl
set_option maxHeartbeats 1000000 in
theorem or_any {l : List Int} (h : RSl encI w A l) (c : Nat) (hl : l.length ≤ 1000000) : Calls Tryz.prog 73 #[.slice A l.length c] w fun e w' => e = .returned (.int .i64 (orL l)) ∧ w = w' := by
  have H := Lib.hid h
  clear h
  go_enter Tryz.func73, Tryz.ntmps73
  go_wp2
  go_loop [5, 8] (fun _ vi => ∃ k : Nat, k ≤ l.length ∧ vi = .int .i64 k ∧ (∀ j u, j < k → l[j]? = some u → u = 0)) (fun _ vi => l.length - (intOf vi).toNat)
  case atStart => exact ⟨0, by omega, rfl, fun j u hj => by omega⟩
  case round =>
    obtain ⟨k, hk, rfl, hc⟩ := hrel
    have HC := Lib.hid hc
    clear hc
    by_cases hlt : k < l.length
    · obtain ⟨z, hz⟩ : ∃ z, l[k]? = some z := ⟨_, List.getElem?_eq_getElem hlt⟩
      obtain ⟨g, o, hAe, hg, hcg⟩ := H.out.at_ eltI hz
      subst hAe
      have k0 := hcg 0 _ rfl
      simp only [Nat.mul_one, Nat.add_zero] at k0
      have hlt' : (k : Int) < l.length := by omega
      have HZ := Lib.hid hz
      clear hz hcg
      by_cases h0 : z = 0
      · subst h0
        go_wp2
        go_round
        case rel =>
          refine ⟨k + 1, by omega, by go_num, fun j u hj hu => ?_⟩
          rcases Nat.lt_or_ge j k with h1 | h1
          · exact HC.out j u h1 hu
          · obtain rfl : j = k := by omega
            rw [HZ.out] at hu; cases hu; rfl
        case measure => simp [intOf]; omega
      · have hz' : (z != 0) = true := by simpa using h0
        have H0 := Lib.hid h0
        clear h0
        go_wp2
        go_ret
        exact ⟨ret_int (orL_some HZ.out H0.out HC.out).symm, rfl⟩
    · obtain rfl : k = l.length := by omega
      go_wp2
      go_ret
      refine ⟨ret_int (orL_none fun j z hz => HC.out j z ?_ hz).symm, rfl⟩
      exact (List.getElem?_eq_some_iff.1 hz).1
/-- Before, as the sort asks: less than 0, 0, greater. -/
def cfD (pr : Int) (x y : OverD) : Int := orL [cmpI (rankI pr x.ps) (rankI pr y.ps), cmpI x.f y.f, cmpI y.t x.t, cmpI x.id y.id]
set_option maxRecDepth 100000 in
set_option maxHeartbeats 2000000 in
theorem ord1_any (q : Nat) (pr : Int) (hq : w.cell? ⟨q, 0, none⟩ = some (.pointer (some ⟨b, 0, none⟩))) (hc : w.cell? ⟨b, 0, none⟩ = some (.int .i64 pr)) (hx : OverIn w x) (hy : OverIn w y) (hsx : SortedP x.ps) (hsy : SortedP y.ps) (hlx : x.ps.length ≤ 1000000) (hly : y.ps.length ≤ 1000000) :
    Calls Tryz.prog 72 #[.pointer (some ⟨x.g, 0, none⟩), .pointer (some ⟨y.g, 0, none⟩), .pointer (some ⟨q, 0, none⟩)] w fun e w' => e = .returned (.int .i64 (cfD pr x.dat y.dat)) ∧ BelD w.heap.size w w' := by
  have hql := lt_of_cell hq
  have hbl := lt_of_cell hc
  have hxl := hx.lt (foot_g x)
  have hyl := hy.lt (foot_g y)
  have CQ : ∀ d : UpD w.heap.size w, d.w.cell? ⟨q, 0, none⟩ = some (.pointer (some ⟨b, 0, none⟩)) := fun d => (d.up.cell (p := ⟨q, 0, none⟩) hql).trans hq
  have CR : ∀ d : UpD w.heap.size w, Calls Tryz.prog 75 #[.pointer (some ⟨b, 0, none⟩), .pointer (some ⟨x.g, 0, none⟩)] d.w fun e w'' => e = .returned (.int .i64 (rankI pr x.ps)) ∧ ∃ y : UpD w.heap.size w, w'' = y.w := fun d =>
    Calls.upd d (Nat.le_refl _) (rank_any pr ((d.up.cell (p := ⟨b, 0, none⟩) hbl).trans hc) (hx.up d.up.toBelow) hsx hlx)
  have CS : ∀ d : UpD w.heap.size w, Calls Tryz.prog 75 #[.pointer (some ⟨b, 0, none⟩), .pointer (some ⟨y.g, 0, none⟩)] d.w fun e w'' => e = .returned (.int .i64 (rankI pr y.ps)) ∧ ∃ y : UpD w.heap.size w, w'' = y.w := fun d =>
    Calls.upd d (Nat.le_refl _) (rank_any pr ((d.up.cell (p := ⟨b, 0, none⟩) hbl).trans hc) (hy.up d.up.toBelow) hsy hly)
  have X0 : ∀ d : UpD w.heap.size w, d.w.cell? ⟨x.g, 0, none⟩ = some (.int .i64 x.id) := fun d => (d.up.cell (p := ⟨x.g, 0, none⟩) hxl).trans (hx.cell 0 _ rfl)
  have X1 : ∀ d : UpD w.heap.size w, d.w.cell? ⟨x.g, 1, none⟩ = some (.int .i64 x.f) := fun d => (d.up.cell (p := ⟨x.g, 1, none⟩) hxl).trans (hx.cell 1 _ rfl)
  have X2 : ∀ d : UpD w.heap.size w, d.w.cell? ⟨x.g, 2, none⟩ = some (.int .i64 x.t) := fun d => (d.up.cell (p := ⟨x.g, 2, none⟩) hxl).trans (hx.cell 2 _ rfl)
  have Y0 : ∀ d : UpD w.heap.size w, d.w.cell? ⟨y.g, 0, none⟩ = some (.int .i64 y.id) := fun d => (d.up.cell (p := ⟨y.g, 0, none⟩) hyl).trans (hy.cell 0 _ rfl)
  have Y1 : ∀ d : UpD w.heap.size w, d.w.cell? ⟨y.g, 1, none⟩ = some (.int .i64 y.f) := fun d => (d.up.cell (p := ⟨y.g, 1, none⟩) hyl).trans (hy.cell 1 _ rfl)
  have Y2 : ∀ d : UpD w.heap.size w, d.w.cell? ⟨y.g, 2, none⟩ = some (.int .i64 y.t) := fun d => (d.up.cell (p := ⟨y.g, 2, none⟩) hyl).trans (hy.cell 2 _ rfl)
  show Calls _ _ _ _ fun e w' => e = .returned (.int .i64 (orL [cmpI (rankI pr x.ps) (rankI pr y.ps), cmpI x.f y.f, cmpI y.t x.t, cmpI x.id y.id])) ∧ _
  generalize rankI pr x.ps = rx at *
  generalize rankI pr y.ps = ry at *
  clear hq hc hx hy hsx hsy hlx hly hql hbl hxl hyl
  go_enter Tryz.func72, Tryz.ntmps72
  go_wp2_with fail
  refine wp_region_upd_tail w.heap.size 34 (by kernel_rfl) (by kernel_rfl) ?_
  simp only [List.take_succ_cons, List.take_zero, List.drop_succ_cons, List.drop_zero]
  iterate 2 (go_big_quiet_step (fail))
  go_big_quiet_step ((go_at_call 75; exact CR _))
  iterate 2 (go_big_quiet_step (fail))
  go_big_quiet_step ((go_at_call 75; exact CS _))
  repeat (go_big_quiet_step ((go_at_call 74; exact Calls.upd_same _ (cmp_any _ _ _))))
  refine wpQuiet_nil ?_
  rintro ⟨w2, hb2⟩
  dsimp only
  clear CQ CR CS X0 X1 X2 Y0 Y1 Y2
  have hR : RSl encI (w2.alloc (.cells #[.int .i64 (cmpI rx ry), .int .i64 (cmpI x.f y.f), .int .i64 (cmpI y.t x.t), .int .i64 (cmpI x.id y.id)] 3)) (some ⟨w2.heap.size, 0, none⟩) [cmpI rx ry, cmpI x.f y.f, cmpI y.t x.t, cmpI x.id y.id] := fun _ =>
    ⟨_, _, rfl, by simp, fun j u hu => by
      have e := (MapKept.heap_alloc w2 (.cells #[.int .i64 (cmpI rx ry), .int .i64 (cmpI x.f y.f), .int .i64 (cmpI y.t x.t), .int .i64 (cmpI x.id y.id)] 3)).1
      simp only [World.cell?, e, Nat.zero_add]
      simpa [cellsL] using hu⟩
  have HO := Lib.hid (or_any hR 4 (by simp))
  clear hR
  go_wp2_with fail
  refine HO.out.mono ?_
  rintro e w' ⟨rfl, rfl⟩
  go_wp2_with fail
  go_ret
  exact ⟨rfl, hb2.alloc hb2.size _⟩
theorem enters_ord1 : Enters 72 := enters_mk Tryz.func72 (by kernel_rfl) rfl
end
end Go.Proofs.YthjkdeocdhdkaaaGreat
