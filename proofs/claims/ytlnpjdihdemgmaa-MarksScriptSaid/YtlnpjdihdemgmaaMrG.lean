/- The reference's In. -/
import Derived.Test.YtlnpjdihdemgmaaMrF
namespace Go.Proofs.Ytlnpjdihdemgmaa
open Go.RowKit
set_option linter.unusedVariables false
section
variable {α : Type} {enc : α → List Value} {T E k by_ B : Nat} {z : Value} {w w' : World} {A : Option Addr} {zs xs ys : List α} {v : Value}
theorem ROwn.emptyAt {g : Nat} (hg : w.heap[g]? = some (.cells #[] E (0, 0))) (hB : B ≤ g) : ROwn enc E k B w (.slice (some ⟨g, 0, none⟩) 0 0) [] :=
  ⟨by simp [cellsL], .inr ⟨g, 0, #[], rfl, hB, hg, by simp, by simp, by simp, by simp [cellsL]⟩⟩
theorem RSl.oneAt {g : Nat} {x : α} {cs : Array Value} {f : Nat × Nat} (hg : w.heap[g]? = some (.cells cs E f)) (he : cs = (enc x).toArray) : RSl enc w (some ⟨g, 0, none⟩) [x] := by
  subst he
  intro _
  refine ⟨g, 0, rfl, (Array.getElem?_eq_some_iff.1 hg).1, fun j u hu => ?_⟩
  simp only [cellsL, List.flatMap_cons, List.flatMap_nil, List.append_nil] at hu
  simp only [World.cell?, hg, Nat.zero_add]
  simpa using hu
theorem al1 (w : World) (a : Obj) : (w.alloc a).drew.heap[w.heap.size]? = some a := (MapKept.heap_alloc w a).1
theorem al2a (w : World) (a b : Obj) : ((w.alloc a).alloc b).drew.heap[w.heap.size]? = some a := ((MapKept.heap_alloc (w.alloc a) b).2 _ (by simp)).trans (MapKept.heap_alloc w a).1
theorem al2b (w : World) (a b : Obj) : ((w.alloc a).alloc b).drew.heap[w.heap.size + 1]? = some b := by
  have := (MapKept.heap_alloc (w.alloc a) b).1
  have e : (w.alloc a).heap.size = w.heap.size + 1 := by simp
  rw [e] at this
  exact this
/-- At a step of a region that draws: an append onto a slice of the region's own. -/
theorem step_appW {w0 w : World} {ops : Array Oper} {o : Oper} {a : Act} {K : Act → World → Prop} {Q : Exit → Act → World → Prop} {C : Prop} {n c : Nat} (I : Elt enc T E k by_ z) (hby : by_ ≤ 100000) (hgd : o.guard = none) (s x : Operand)
    (ho : o.op = .call { callee := .builtin .append, args := #[s, x], argTypes := #[T, T] }) (hs : a.eval s = v) (hown : ROwn enc E k w0.heap.size w v xs) (hbel : Below w0.heap.size w0 w)
    (hx : a.eval x = .slice A n c) (hn : n = ys.length) (hsrc : RSl enc w A ys) (hlen : xs.length + ys.length ≤ 1000000000)
    (h : ∀ v' w', ROwn enc E k w0.heap.size w' v' (xs ++ ys) → Below w0.heap.size w0 w' → (∀ g, g < w.heap.size → v.ownBlock ≠ some g → w'.heap[g]? = w.heap[g]?) → K (a.put o.dst v') w') : if Region.wanted o (yielded ops a.tmps) = true then Oper.wp Try.prog o a w K Q else C := by
  have hw : Region.wanted o (yielded ops a.tmps) = true := by simp [Region.wanted, hgd]
  rw [if_pos hw]
  subst hn
  obtain ⟨v', w', hr, h2, h3, h4⟩ := append_run I hown hbel.size hsrc c hlen hby
  unfold Oper.wp execOp
  simp only [ho, resolve, invoke, builtin, Sem.run_bind, Sem.run_pure, Result.andThen_ok, List.map_toArray, List.map_cons, List.map_nil, hs, hx, hr]
  exact h v' w' h2 (hbel.grown h3 hbel.size (fun k hk => hown.base hk)) (fun g hg hne => h3.block g hg (fun e => hne e.symm))
end
variable {B bo : Nat} {v : Value} {m : List (Int × Mk)} {n : Int} {w w' : World}
def RInPost (w : World) (m : List (Int × Mk)) (f t : Int) (e : Ending) (w' : World) : Prop := ∃ v l, e = .returned v ∧ InInv m f t m.length l ∧ ROwn encI 3 1 w.heap.size w' v (l.map (·.1)) ∧ Below w.heap.size w w'

set_option maxRecDepth 100000 in
set_option maxHeartbeats 4000000 in
theorem rin_any (h : RefAt B w bo v m n) (ha : (m.map (·.1)).Pairwise (· < ·)) (f t : Int) (hl : m.length ≤ 1000000) : Calls Try.prog 32 #[.pointer (some ⟨bo, 0, none⟩), .int .i64 f, .int .i64 t] w (RInPost w m f t) := by
  obtain ⟨A, cp, rfl, hA1, hA2, hAs⟩ := h.own.shape eltK
  have H := Lib.hid h
  have HAs := Lib.hid hAs
  have HA := Lib.hid ha
  have hbo := h.lt
  clear h hAs ha hA1 hA2
  go_enter Try.func32, Try.ntmps32
  go_wp2_with fail
  go_loopw [7, 8] (fun vl vi wr => ∃ (i : Nat) (ls : List (Int × Mk)), i ≤ m.length ∧ vi = .int .i64 i ∧ InInv m f t i ls ∧ ROwn encK 47 3 w.heap.size wr vl ls ∧ Below w.heap.size w wr) (fun _ vi _ => m.length - (intOf vi).toNat)
  case atStart => exact ⟨0, [], by omega, rfl, InInv.start m f t, ROwn.nil _ _, Below.refl _ _⟩
  case round =>
    obtain ⟨i, ls, hi, rfl, hinv, hown, hbel⟩ := hrel
    have hls := hinv.len
    obtain ⟨AL, cl, rfl, hL1, hL2, hLs⟩ := hown.shape eltK
    unfold maxLen at hL2
    have c0 := (H.out.up hbel).c0
    by_cases hlt : i < m.length
    · obtain ⟨⟨id, at_, adv⟩, hx⟩ : ∃ x, m[i]? = some x := ⟨_, List.getElem?_eq_getElem hlt⟩
      obtain ⟨g, o, hAe, hg, hc⟩ := (HAs.out.up hbel).at_ eltK hx
      obtain rfl := hAe
      have e0 := hc 0 _ rfl
      have e1 := hc 1 _ rfl
      have e2 := hc 2 _ rfl
      simp only [← Nat.add_assoc, Nat.add_zero] at e0 e1 e2
      have hlt' : (i : Int) < m.length := by omega
      have HX := Lib.hid hx
      have hal := MapKept.heap_alloc wr (.cells #[.int .i64 id, .int .i64 at_, .bool adv] 47)
      obtain ⟨W2, hW2⟩ : ∃ W2, wr.alloc (.cells #[.int .i64 id, .int .i64 at_, .bool adv] 47) = W2 := ⟨_, rfl⟩
      have hbel2 : Below w.heap.size w W2 := by rw [← hW2]; exact up2 hbel (below1 wr _)
      have hbw2 : Below wr.heap.size wr W2 := by rw [← hW2]; exact below1 wr _
      have hown2 := hown.up hbw2
      have hLs2 := hLs.up hbw2
      have x0 : W2.cell? ⟨wr.heap.size, 0, none⟩ = some (.int .i64 id) := by rw [← hW2]; simp only [World.cell?, hal.1]; rfl
      have x1 : W2.cell? ⟨wr.heap.size, 1, none⟩ = some (.int .i64 at_) := by rw [← hW2]; simp only [World.cell?, hal.1]; rfl
      have x2 : W2.cell? ⟨wr.heap.size, 2, none⟩ = some (.bool adv) := by rw [← hW2]; simp only [World.cell?, hal.1]; rfl
      have hsz2 : wr.heap.size < W2.heap.size := by rw [← hW2]; simp
      have hws : w.heap.size ≤ wr.heap.size := hbel.size
      clear hc hal hx
      have hcase : (f ≤ at_ ∧ at_ ≤ t) ∨ at_ < f ∨ (f ≤ at_ ∧ t < at_) := by omega
      rcases hcase with ⟨q1, q2⟩ | q1 | ⟨q1, q2⟩
      · obtain ⟨wo, rfl⟩ : ∃ wo : World, wo = wr := ⟨_, rfl⟩
        go_wp2_with fail
        clear c0 e0 e1 e2 hown hLs hown2
        go_loopw [10] (fun vk wz => ∃ k : Nat, k ≤ ls.length ∧ vk = .int .i64 k ∧ Hid (∀ (j : Nat) (p : Int × Mk), k ≤ j → ls[j]? = some p → at_ < p.2.1) ∧ Below W2.heap.size W2 wz) (fun vk _ => (intOf vk).toNat)
        case atStart => exact ⟨ls.length, by omega, rfl, Lib.hid (fun j p hj hjp => by have := (List.getElem?_eq_some_iff.1 hjp).1; omega), Below.refl _ _⟩
        case round =>
          obtain ⟨k, hk, rfl, HUp, hbk⟩ := hrel
          have u1 := (hbk.cell (p := ⟨wo.heap.size, 1, none⟩) hsz2).trans x1
          by_cases hpos : 0 < k
          · obtain ⟨⟨pid, pat, padv⟩, hy⟩ : ∃ y, ls[k - 1]? = some y := ⟨_, List.getElem?_eq_getElem (by omega)⟩
            obtain ⟨g2, o2, hAe, hg2, hc2⟩ := (hLs2.up hbk).at_ eltK hy
            obtain rfl := hAe
            have p1 := hc2 1 _ rfl
            simp only [← Nat.add_assoc] at p1
            have HY := Lib.hid hy
            have w1 : IntKind.i64.wrap ((k : Int) - 1) = (k : Int) - 1 := IntWalk.i64_in _ (by omega)
            have b0 : (0 : Int) ≤ (k : Int) - 1 := by omega
            have b0' : (1 : Int) ≤ (k : Int) := by omega
            have b1 : (k : Int) - 1 < ls.length := by omega
            have b2 : ((k : Int) - 1).toNat = k - 1 := by omega
            have g0 : decide ((0 : Int) < (k : Int)) = true := by simpa using hpos
            by_cases hgt : at_ < pat
            · have d1 : decide (at_ < pat) = true := by simpa using hgt
              have HN : Hid (∀ (j : Nat) (p : Int × Mk), k - 1 ≤ j → ls[j]? = some p → at_ < p.2.1) := Lib.hid fun j p hj hjp => by
                rcases Nat.lt_or_ge j k with h1 | h1
                · have : j = k - 1 := by omega
                  subst this
                  rw [HY.out] at hjp; cases hjp; exact hgt
                · exact HUp.out j p h1 hjp
              clear hc2 hy
              go_wp2_with fail
              go_quiet (fail)
              clear w1 b0 b0' b1 b2
              go_wp2_with fail
              go_roundw
              case rel => exact ⟨k - 1, by omega, by congr 1; omega, HN, ⟨hbk.os, hbk.tape, hbk.output, hbk.size, hbk.block⟩⟩
              case measure => simp [intOf]; omega
            · have d1 : decide (at_ < pat) = false := by simpa using hgt
              have HLo : Hid (∀ (p : Int × Mk), 0 < k → ls[k - 1]? = some p → p.2.1 ≤ at_) := Lib.hid fun p _ hp => by
                rw [HY.out] at hp; cases hp; dsimp only; omega
              clear hc2 hy
              go_wp2_with fail
              go_quiet (fail)
              clear w1 b0 b0' b1 b2 hgt
              go_wp2_with fail
              clear d1 g0 p1 u1
              have hbq : Below W2.heap.size W2 (wr.drewN nq) := ⟨hbk.os, hbk.tape, hbk.output, hbk.size, hbk.block⟩
              generalize wr.drewN nq = wq at *
              have hLq := hLs2.up hbq
              have y0 := (hbq.cell (p := ⟨wo.heap.size, 0, none⟩) hsz2).trans x0
              have y1 := (hbq.cell (p := ⟨wo.heap.size, 1, none⟩) hsz2).trans x1
              have y2 := (hbq.cell (p := ⟨wo.heap.size, 2, none⟩) hsz2).trans x2
              have hSq : wo.heap.size < wq.heap.size := Nat.lt_of_lt_of_le hsz2 hbq.size
              have hq1 : (k : Int) ≤ cl := by omega
              have hq2 : (k : Int) ≤ ls.length := by omega
              have hq3 : (0 : Int) ≤ k := by omega
              go_region_law (first | (refine step_appW (w0 := wq) (v := .slice (some ⟨wq.heap.size, 0, none⟩) 0 0) (A := some ⟨g2, o2, none⟩) (n := k) (c := cl) (xs := []) (ys := ls.take k) eltK (by omega) rfl _ _ rfl (by simp [Act.eval]) (ROwn.emptyAt (by first | exact al1 _ _ | exact al2a _ _ _ | exact al2b _ _ _) (by omega)) (by first | exact (below1 wq _).drew | exact ((below1 wq _).alloc (by simp) _).drew) (by simp [Act.eval]) (by simp; omega) ((hLq.up (by first | exact (below1 wq _).drew | exact ((below1 wq _).alloc (by simp) _).drew)).take eltK k) (by simp; omega) ?_; intro v7 w7 hown7 hbel7 hold7; have r0 := (hbel7.cell (p := ⟨wo.heap.size, 0, none⟩) hSq).trans y0; have r1 := (hbel7.cell (p := ⟨wo.heap.size, 1, none⟩) hSq).trans y1; have r2 := (hbel7.cell (p := ⟨wo.heap.size, 2, none⟩) hSq).trans y2) | (refine step_appW (w0 := wq) (v := .slice (some ⟨wq.heap.size + 1, 0, none⟩) 0 0) (A := some ⟨g2, o2, none⟩) (n := k) (c := cl) (xs := []) (ys := ls.take k) eltK (by omega) rfl _ _ rfl (by simp [Act.eval]) (ROwn.emptyAt (by first | exact al1 _ _ | exact al2a _ _ _ | exact al2b _ _ _) (by omega)) (by first | exact (below1 wq _).drew | exact ((below1 wq _).alloc (by simp) _).drew) (by simp [Act.eval]) (by simp; omega) ((hLq.up (by first | exact (below1 wq _).drew | exact ((below1 wq _).alloc (by simp) _).drew)).take eltK k) (by simp; omega) ?_; intro v7 w7 hown7 hbel7 hold7; have r0 := (hbel7.cell (p := ⟨wo.heap.size, 0, none⟩) hSq).trans y0; have r1 := (hbel7.cell (p := ⟨wo.heap.size, 1, none⟩) hSq).trans y1; have r2 := (hbel7.cell (p := ⟨wo.heap.size, 2, none⟩) hSq).trans y2) | (refine step_appW (w0 := wq) (v := v7) (A := some ⟨w7.heap.size, 0, none⟩) (n := 1) (c := 1) (xs := [] ++ ls.take k) (ys := [(id, (at_, adv))]) eltK (by omega) rfl _ _ rfl (by simp [Act.eval]) (hown7.up (below1 w7 _)) (hbel7.alloc hbel7.size _) (by simp [Act.eval]) rfl (RSl.oneAt (MapKept.heap_alloc w7 _).1 rfl) (by simp; omega) ?_; intro v8 w8 hown8 hbel8 hold8) | (refine step_appW (w0 := wq) (v := v7) (A := some ⟨wq.heap.size + 1, 0, none⟩) (n := 1) (c := 1) (xs := [] ++ ls.take k) (ys := [(id, (at_, adv))]) eltK (by omega) rfl _ _ rfl (by simp [Act.eval]) hown7 hbel7 (by simp [Act.eval]) rfl (RSl.oneAt ((hold7 _ (by simp <;> omega) (by simp [Value.ownBlock])).trans (by first | exact al1 _ _ | exact al2a _ _ _ | exact al2b _ _ _)) rfl) (by simp; omega) ?_; intro v8 w8 hown8 hbel8 hold8) | (refine step_appW (w0 := wq) (v := v7) (A := some ⟨wq.heap.size, 0, none⟩) (n := 1) (c := 1) (xs := [] ++ ls.take k) (ys := [(id, (at_, adv))]) eltK (by omega) rfl _ _ rfl (by simp [Act.eval]) hown7 hbel7 (by simp [Act.eval]) rfl (RSl.oneAt ((hold7 _ (by simp <;> omega) (by simp [Value.ownBlock])).trans (by first | exact al1 _ _ | exact al2a _ _ _ | exact al2b _ _ _)) rfl) (by simp; omega) ?_; intro v8 w8 hown8 hbel8 hold8) | (refine step_appW (w0 := wq) (v := v8) (A := if cl = k then some ⟨g2, o2, none⟩ else (some ⟨g2, o2, none⟩ : Option Addr).map (·.add (k * 3))) (n := ls.length - k) (c := cl - k) (xs := [] ++ ls.take k ++ [(id, (at_, adv))]) (ys := ls.drop k) eltK (by omega) rfl _ _ rfl (by simp [Act.eval]) hown8 hbel8 (by first | (simp [Act.eval]; done) | (simp [Act.eval, Go.WideShapes.add_plain]; done)) (by simp) ((hLq.up hbel8).drop eltK hk hL1) (by simp; omega) ?_; intro v9 w9 hown9 hbel9 hold9))
              all_goals
                rw [List.nil_append] at hown9
                have hbe9 := up2 (up2 hbel2 hbq) hbel9
                have hown10 := hown9.low (Nat.le_trans hbel2.size hbq.size)
                go_wp2_with fail
                go_roundw
                case rel => exact ⟨i + 1, ls.take k ++ [(id, (at_, adv))] ++ ls.drop k, by omega, by go_num, hinv.put HA.out HX.out q1 q2 hk HUp.out HLo.out, hown10, hbe9⟩
                case measure => simp [intOf]; omega
          · have g0 : decide ((0 : Int) < (k : Int)) = false := by simpa using hpos
            have g0' : decide (0 < k) = false := by simpa using hpos
            have HLo : Hid (∀ (p : Int × Mk), 0 < k → ls[k - 1]? = some p → p.2.1 ≤ at_) := Lib.hid fun p h0 _ => absurd h0 hpos
            clear hpos
            go_wp2_with fail
            go_quiet (fail)
            go_wp2_with fail
            clear g0 g0' u1
            have hbq : Below W2.heap.size W2 (wr.drewN nq) := ⟨hbk.os, hbk.tape, hbk.output, hbk.size, hbk.block⟩
            generalize wr.drewN nq = wq at *
            have hLq := hLs2.up hbq
            have y0 := (hbq.cell (p := ⟨wo.heap.size, 0, none⟩) hsz2).trans x0
            have y1 := (hbq.cell (p := ⟨wo.heap.size, 1, none⟩) hsz2).trans x1
            have y2 := (hbq.cell (p := ⟨wo.heap.size, 2, none⟩) hsz2).trans x2
            have hSq : wo.heap.size < wq.heap.size := Nat.lt_of_lt_of_le hsz2 hbq.size
            have hq1 : (k : Int) ≤ cl := by omega
            have hq2 : (k : Int) ≤ ls.length := by omega
            have hq3 : (0 : Int) ≤ k := by omega
            go_region_law (first | (refine step_appW (w0 := wq) (v := .slice (some ⟨wq.heap.size, 0, none⟩) 0 0) (A := AL) (n := k) (c := cl) (xs := []) (ys := ls.take k) eltK (by omega) rfl _ _ rfl (by simp [Act.eval]) (ROwn.emptyAt (by first | exact al1 _ _ | exact al2a _ _ _ | exact al2b _ _ _) (by omega)) (by first | exact (below1 wq _).drew | exact ((below1 wq _).alloc (by simp) _).drew) (by simp [Act.eval]) (by simp; omega) ((hLq.up (by first | exact (below1 wq _).drew | exact ((below1 wq _).alloc (by simp) _).drew)).take eltK k) (by simp; omega) ?_; intro v7 w7 hown7 hbel7 hold7; have r0 := (hbel7.cell (p := ⟨wo.heap.size, 0, none⟩) hSq).trans y0; have r1 := (hbel7.cell (p := ⟨wo.heap.size, 1, none⟩) hSq).trans y1; have r2 := (hbel7.cell (p := ⟨wo.heap.size, 2, none⟩) hSq).trans y2) | (refine step_appW (w0 := wq) (v := .slice (some ⟨wq.heap.size + 1, 0, none⟩) 0 0) (A := AL) (n := k) (c := cl) (xs := []) (ys := ls.take k) eltK (by omega) rfl _ _ rfl (by simp [Act.eval]) (ROwn.emptyAt (by first | exact al1 _ _ | exact al2a _ _ _ | exact al2b _ _ _) (by omega)) (by first | exact (below1 wq _).drew | exact ((below1 wq _).alloc (by simp) _).drew) (by simp [Act.eval]) (by simp; omega) ((hLq.up (by first | exact (below1 wq _).drew | exact ((below1 wq _).alloc (by simp) _).drew)).take eltK k) (by simp; omega) ?_; intro v7 w7 hown7 hbel7 hold7; have r0 := (hbel7.cell (p := ⟨wo.heap.size, 0, none⟩) hSq).trans y0; have r1 := (hbel7.cell (p := ⟨wo.heap.size, 1, none⟩) hSq).trans y1; have r2 := (hbel7.cell (p := ⟨wo.heap.size, 2, none⟩) hSq).trans y2) | (refine step_appW (w0 := wq) (v := v7) (A := some ⟨w7.heap.size, 0, none⟩) (n := 1) (c := 1) (xs := [] ++ ls.take k) (ys := [(id, (at_, adv))]) eltK (by omega) rfl _ _ rfl (by simp [Act.eval]) (hown7.up (below1 w7 _)) (hbel7.alloc hbel7.size _) (by simp [Act.eval]) rfl (RSl.oneAt (MapKept.heap_alloc w7 _).1 rfl) (by simp; omega) ?_; intro v8 w8 hown8 hbel8 hold8) | (refine step_appW (w0 := wq) (v := v7) (A := some ⟨wq.heap.size + 1, 0, none⟩) (n := 1) (c := 1) (xs := [] ++ ls.take k) (ys := [(id, (at_, adv))]) eltK (by omega) rfl _ _ rfl (by simp [Act.eval]) hown7 hbel7 (by simp [Act.eval]) rfl (RSl.oneAt ((hold7 _ (by simp <;> omega) (by simp [Value.ownBlock])).trans (by first | exact al1 _ _ | exact al2a _ _ _ | exact al2b _ _ _)) rfl) (by simp; omega) ?_; intro v8 w8 hown8 hbel8 hold8) | (refine step_appW (w0 := wq) (v := v7) (A := some ⟨wq.heap.size, 0, none⟩) (n := 1) (c := 1) (xs := [] ++ ls.take k) (ys := [(id, (at_, adv))]) eltK (by omega) rfl _ _ rfl (by simp [Act.eval]) hown7 hbel7 (by simp [Act.eval]) rfl (RSl.oneAt ((hold7 _ (by simp <;> omega) (by simp [Value.ownBlock])).trans (by first | exact al1 _ _ | exact al2a _ _ _ | exact al2b _ _ _)) rfl) (by simp; omega) ?_; intro v8 w8 hown8 hbel8 hold8) | (refine step_appW (w0 := wq) (v := v8) (A := if cl = k then AL else AL.map (·.add (k * 3))) (n := ls.length - k) (c := cl - k) (xs := [] ++ ls.take k ++ [(id, (at_, adv))]) (ys := ls.drop k) eltK (by omega) rfl _ _ rfl (by simp [Act.eval]) hown8 hbel8 (by first | (simp [Act.eval]; done) | (simp [Act.eval, Go.WideShapes.add_plain]; done)) (by simp) ((hLq.up hbel8).drop eltK hk hL1) (by simp; omega) ?_; intro v9 w9 hown9 hbel9 hold9))
            all_goals
              rw [List.nil_append] at hown9
              have hbe9 := up2 (up2 hbel2 hbq) hbel9
              have hown10 := hown9.low (Nat.le_trans hbel2.size hbq.size)
              go_wp2_with fail
              go_roundw
              case rel => exact ⟨i + 1, ls.take k ++ [(id, (at_, adv))] ++ ls.drop k, by omega, by go_num, hinv.put HA.out HX.out q1 q2 hk HUp.out HLo.out, hown10, hbe9⟩
              case measure => simp [intOf]; omega
      · have hsk := hinv.skip HX.out (by dsimp only; omega)
        clear hinv hown hLs hbel hbw2
        go_wp2_with fail
        go_roundw
        case rel => exact ⟨i + 1, ls, by omega, by go_num, hsk, hown2, hbel2⟩
        case measure => simp [intOf]; omega
      · have hsk := hinv.skip HX.out (by dsimp only; omega)
        clear hinv hown hLs hbel hbw2
        go_wp2_with fail
        go_roundw
        case rel => exact ⟨i + 1, ls, by omega, by go_num, hsk, hown2, hbel2⟩
        case measure => simp [intOf]; omega
    · have hil : i = m.length := by omega
      subst hil
      obtain ⟨wo, rfl⟩ : ∃ wo : World, wo = wr := ⟨_, rfl⟩
      have HLs := Lib.hid hLs
      have HI := Lib.hid hinv
      clear hLs hinv hlt
      go_wp2_with fail
      clear c0
      go_loopw [11, 12] (fun vo vi wz => ∃ j : Nat, j ≤ ls.length ∧ vi = .int .i64 j ∧ ROwn encI 3 1 wo.heap.size wz vo ((ls.take j).map (·.1)) ∧ Below wo.heap.size wo wz) (fun _ vi _ => ls.length - (intOf vi).toNat)
      case atStart => exact ⟨0, by omega, rfl, ROwn.nil _ _, Below.refl _ _⟩
      case round =>
        obtain ⟨j, hj, rfl, hown3, hbel3⟩ := hrel
        by_cases hlt : j < ls.length
        · obtain ⟨⟨id, at_, adv⟩, hx⟩ : ∃ x, ls[j]? = some x := ⟨_, List.getElem?_eq_getElem hlt⟩
          obtain ⟨g, o, hAe, hg, hc⟩ := (HLs.out.up hbel3).at_ eltK hx
          obtain rfl := hAe
          have e0 := hc 0 _ rfl
          simp only [Nat.add_zero] at e0
          have hlt' : (j : Int) < ls.length := by omega
          obtain ⟨v', w', happ, hown', hb', _, _⟩ := append_elem eltI hown3 hbel3.size id (by simp; omega) (by omega)
          have htk : (ls.take (j + 1)).map (·.1) = (ls.take j).map (·.1) ++ [id] := by
            rw [List.take_succ_eq_append_getElem hlt, List.map_append, (List.getElem?_eq_some_iff.1 hx).2]; rfl
          rw [← htk] at hown'
          have HP := Lib.hid happ
          clear happ hc hx htk
          go_wp2_with (at_builtin; refine wpList_app_run rfl _ _ _ rfl rfl rfl HP.out ?_)
          go_roundw
          case rel => exact ⟨j + 1, by omega, by go_num, hown', hbel3.trans hb'⟩
          case measure => simp [intOf]; omega
        · have hjl : j = ls.length := by omega
          subst hjl
          rw [List.take_length] at hown3
          go_wp2_with fail
          go_ret
          exact ⟨_, ls, rfl, HI.out, hown3.low hbel.size, up2 hbel hbel3⟩
end Go.Proofs.Ytlnpjdihdemgmaa
