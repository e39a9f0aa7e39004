/- slices.Insert and slices.Delete at properties. -/
import Derived.Test.YthjkdeocdhdkaaaGreatOvJ
import Derived.Lib.Overlaps
import Derived.Lib.AppendZerosOnto
import Derived.Laws.IdiomCopy
import Derived.Laws.NewBlocks
import Derived.ArgAppend
import Derived.Laws.Externs
import Derived.BigRegion
namespace Go.Proofs.YthjkdeocdhdkaaaGreat
open Go.RowKit Go.Lib
set_option linter.unusedVariables false
set_option linter.unusedSimpArgs false
section
variable {P : Program} {w : World}
/-- A list with values laid over it from o on. -/
def stL (cur : List Value) : Nat → List Value → List Value
  | _, [] => cur
  | o, v :: r => stL (cur.set o v) (o + 1) r
theorem stL_eq : ∀ (vs cur : List Value) (o : Nat), o + vs.length ≤ cur.length → stL cur o vs = cur.take o ++ vs ++ cur.drop (o + vs.length)
  | [], cur, o, h => by simp [stL]
  | v :: r, cur, o, h => by
    simp only [List.length_cons] at h
    rw [stL, stL_eq r (cur.set o v) (o + 1) (by simp; omega)]
    have h1 : (cur.set o v).take (o + 1) = cur.take o ++ [v] := by
      rw [List.take_succ_eq_append_getElem (by simp; omega), List.take_set_of_le (Nat.le_refl _)]; simp
    have h2 : (cur.set o v).drop (o + 1 + r.length) = cur.drop (o + 1 + r.length) := List.drop_set_of_lt (by omega)
    rw [h1, h2, List.length_cons, show o + (r.length + 1) = o + 1 + r.length by omega]
    simp
theorem stL_length : ∀ (vs cur : List Value) (o : Nat), (stL cur o vs).length = cur.length
  | [], cur, o => rfl
  | v :: r, cur, o => by rw [stL, stL_length r]; simp
theorem heap_setCells {g : Nat} {E : TypeId} : ∀ (vs : List Value) (o : Nat) (w : World) (cur : List Value), w.heap[g]? = some (.cells cur.toArray E (0, 0)) → (w.setCells g o vs).heap[g]? = some (.cells (stL cur o vs).toArray E (0, 0))
  | [], o, w, cur, h => h
  | v :: r, o, w, cur, h => by
    rw [World.setCells, stL]
    refine heap_setCells r (o + 1) _ _ ?_
    have := heap_setCell_same w g o _ _ v h
    simpa using this
theorem only_setCells {g : Nat} : ∀ (vs : List Value) (o : Nat) (w : World), Only (· = g) w (w.setCells g o vs)
  | [], o, w => Only.refl _ _
  | v :: r, o, w => ((Only.refl (· = g) w).setCell (p := ⟨g, o, none⟩) rfl v).trans (only_setCells r (o + 1) _)
/-- 'copy' at elements of k cells: all is read before anything is written. -/
theorem run_copy_k (w : World) (dT sT ty elem : TypeId) (b o dLen dCap : Nat) (a : Addr) (sLen sCap k : Nat) (cs : List Value)
    (hu : P.underlying dT = some (.slice elem)) (hs : (P.info? elem).map (·.size) = some k) (hn : cs.length = Nat.min sLen dLen * k)
    (hsrc : ∀ j v, cs[j]? = some v → w.cell? (a.add j) = some v) (hc : ∀ j, j < cs.length → (w.cell? ⟨b, o + j, none⟩).isSome = true) (hf : ∀ j, j < cs.length → w.frozen? ⟨b, o + j, none⟩ = false) (h1 : ∀ v ∈ cs, v.oneCell' = true) :
    (Builtin.copy_ #[dT, sT] ty #[.slice (some ⟨b, o, none⟩) dLen dCap, .slice (some a) sLen sCap]).run P w = .ok (goInt (Nat.min sLen dLen)) (w.setCells b o cs) := by
  have hl := run_loadCells_list (P := P) w a cs hsrc
  have hst := run_storeCells_cells (P := P) b o cs 0 w (by simpa using hc) (by simpa using hf) h1
  cases hq : P.info? elem with
  | none => simp [hq] at hs
  | some i =>
    have hi : i.size = k := by simpa [hq] using hs
    simp [Builtin.copy_, run_underlying hu, Builtin.lenOf, Builtin.firstCells, sizeOf, typeInfo, hq, hi, ← hn, hl, hst]
end
section
variable {w w' : World} {ps : List PropE} {p : PropE} {v : Value} {A : Option Addr}
theorem oneP (zs : List PropE) : ∀ u ∈ cellsL encP zs, u.oneCell' = true := fun u hu => by
  obtain ⟨x, _, hx⟩ := List.mem_flatMap.1 hu
  exact eltP.one x u hx
theorem infoP : ∃ i, Tryz.prog.info? 71 = some i ∧ i.zero = some (.agg #[.int .i64 0, .int .i64 0, .int .i64 0]) ∧ i.size = 3 ∧ i.bytes = 24 := by
  obtain ⟨i, hi, h0, h1, h2⟩ := info_parts eltP.info
  exact ⟨i, hi, h0, h1, h2⟩
/-- After an insertion or a deletion: a slice that is owned, in the old block or a new one. -/
def InsP (w : World) (v : Value) (zs : List PropE) (e : Ending) (w' : World) : Prop :=
  ∃ v', e = .returned v' ∧ ROwn encP 71 3 0 w' v' zs ∧ Only (fun g => v.ownBlock = some g) w w' ∧ (v'.ownBlock = v.ownBlock ∨ ∃ g, v'.ownBlock = some g ∧ w.heap.size ≤ g)
set_option maxRecDepth 100000 in
set_option maxHeartbeats 1000000 in
theorem ins_end (h : ROwn encP 71 3 0 w v ps) (vb : Nat) (hs : RSl encP w (some ⟨vb, 0, none⟩) [p]) (hl : ps.length ≤ 1000) :
    Calls Tryz.prog 58 #[v, .int .i64 ps.length, .slice (some ⟨vb, 0, none⟩) 1 1] w (InsP w v (ps ++ [p])) := by
  obtain ⟨v', w', hrun, h2, h3, h4⟩ := append_run eltP h (Nat.zero_le _) hs 1 (by simp; omega) (by omega)
  obtain ⟨A, c, rfl, hc1, hc2, _⟩ := h.shape eltP
  obtain ⟨A2, c2, hv2, _, _, _⟩ := h2.shape eltP
  have HP := Lib.hid hrun
  have HO := Lib.hid h2
  have HG := Lib.hid h3
  have HV := Lib.hid h4
  generalize (ps ++ [p]).length = n2 at hv2
  subst hv2
  clear hrun h2 h3 h4 h hs
  unfold maxLen at hc2
  by_cases hcl : c = ps.length
  · subst hcl
    go_enter Tryz.func58, Tryz.ntmps58
    go_wp2_with (at_builtin; refine wpList_app_run rfl _ _ _ rfl rfl rfl HP.out ?_)
    go_ret
    refine ⟨_, rfl, HO.out, ⟨HG.out.os, HG.out.tape, HG.out.output, HG.out.size, fun i hi hn => HG.out.block i hi (fun e => hn e.symm)⟩, ?_⟩
    exact HV.out.imp id fun e => ⟨_, e, Nat.le_refl _⟩
  · go_enter Tryz.func58, Tryz.ntmps58
    go_wp2_with (at_builtin; refine wpList_app_run rfl _ _ _ rfl rfl rfl HP.out ?_)
    go_ret
    refine ⟨_, rfl, HO.out, ⟨HG.out.os, HG.out.tape, HG.out.output, HG.out.size, fun i hi hn => HG.out.block i hi (fun e => hn e.symm)⟩, ?_⟩
    exact HV.out.imp id fun e => ⟨_, e, Nat.le_refl _⟩
end
section
variable {w w' : World} {ps : List PropE} {p : PropE} {v : Value} {A : Option Addr}
/-- A copy whose run is known. -/
theorem wpList_cp_run {P : Program} {w w' : World} {ops : Array Oper} {rest : List Oper} {o : Oper} {a : Act} {Q : Exit → Act → World → Prop} {v u v' : Value} (hgd : o.guard = none) (s x : Operand) (t : TypeId)
    (ho : o.op = .call { callee := .builtin .copy, args := #[s, x], argTypes := #[t, t] }) (hs : a.eval s = v) (hx : a.eval x = u)
    (hr : ∀ ty, (Builtin.copy_ #[t, t] ty #[v, u]).run P w = .ok v' w') (h : wpList P ops Q rest (a.put o.dst v') w') : wpList P ops Q (o :: rest) a w := by
  refine wpList_plain hgd fun K hK => ?_
  unfold Oper.wp execOp
  simp only [ho, resolve, invoke, builtin, Sem.run_bind, Sem.run_pure, Result.andThen_ok, List.map_toArray, List.map_cons, List.map_nil, hs, hx, hr]
  exact hK _ _ h
theorem stL_two (cl D E : List Value) (i3 : Nat) (hE : E.length = 3) (h : i3 + 3 + D.length ≤ cl.length) : (stL (stL cl (i3 + 3) D) i3 E).take (i3 + 3 + D.length) = cl.take i3 ++ (E ++ D) := by
  rw [stL_eq E _ _ (by rw [stL_length, hE]; omega), stL_eq D _ _ h, hE]
  obtain ⟨R, hR⟩ : ∃ R, R = cl.drop (i3 + 3 + D.length) := ⟨_, rfl⟩
  rw [← hR]
  have h1 : (cl.take (i3 + 3) ++ D ++ R).take i3 = cl.take i3 := by
    rw [List.append_assoc, List.take_append_of_le_length (by rw [List.length_take]; omega), List.take_take, Nat.min_eq_left (by omega)]
  have h2 : (cl.take (i3 + 3) ++ D ++ R).drop (i3 + 3) = D ++ R := by
    rw [List.append_assoc]
    exact List.drop_left' (by rw [List.length_take]; omega)
  have e : cl.take i3 ++ E ++ (D ++ R) = (cl.take i3 ++ (E ++ D)) ++ R := by simp only [List.append_assoc]
  rw [h1, h2, e]
  exact List.take_left' (by simp only [List.length_append, List.length_take, hE]; omega)
theorem cellsP_len (zs : List PropE) : (cellsL encP zs).length = zs.length * 3 := cellsL_length eltP.len zs
theorem infoP3 : (Tryz.prog.info? 71).map (·.size) = some 3 := by
  obtain ⟨i, hi, _, h1, _⟩ := infoP
  rw [hi]; simp [h1]
theorem overlaps_no {vb g lb cb o : Nat} {cur : Array Value} (hne : vb ≠ g) (hvb : w.heap[vb]? = some (.cells (encP p).toArray 71 (0, 0))) (hg : w.heap[g]? = some (.cells cur 71 (0, 0))) (hk : cur.size ≠ 0) :
    (callFunc 83 #[.slice (some ⟨vb, 0, none⟩) 1 1, .slice (some ⟨g, o, none⟩) lb cb]).run Tryz.prog w = .ok (.value (.bool false)) w := by
  rw [run_callFunc_extern Tryz.func83 (by kernel_rfl) (by kernel_rfl) (by kernel_rfl) (e := Extern.SlicesOverlaps.overlaps #[67, 67] #[4]) (by kernel_rfl),
    Lib.run_overlaps_apart w 67 4 71 Tryz.underlying67 3 Tryz.sizeOf71 ⟨vb, 0, none⟩ ⟨g, o, none⟩ 1 1 lb cb hne 71 71 3 cur.size (by simp [World.shape?, hvb]) (by simp [World.shape?, hg]) hk (by simp [World.frozen?, hvb]) (by simp [World.frozen?, hvb])]
  rfl
set_option maxRecDepth 100000 in
set_option maxHeartbeats 2000000 in
theorem ins_shift {g c i vb : Nat} (h : ROwn encP 71 3 0 w (.slice (some ⟨g, 0, none⟩) ps.length c) ps) (hi : i < ps.length) (hroom : ps.length + 1 ≤ c) (hne : vb ≠ g) (hvb : w.heap[vb]? = some (.cells (encP p).toArray 71 (0, 0))) (hl : ps.length ≤ 1000) :
    Calls Tryz.prog 58 #[.slice (some ⟨g, 0, none⟩) ps.length c, .int .i64 i, .slice (some ⟨vb, 0, none⟩) 1 1] w (InsP w (.slice (some ⟨g, 0, none⟩) ps.length c) (ps.take i ++ p :: ps.drop i)) := by
  rcases h.2 with ⟨h0, _⟩ | ⟨g', c', cur, e, _, hg, hnc, hcm, hcs, htk⟩
  · cases h0
  cases e
  unfold maxLen at hcm
  obtain ⟨cl⟩ := cur
  simp only [List.size_toArray] at hcs
  simp only at htk
  have hdl : (cellsL encP (ps.drop i)).length = (ps.length - i) * 3 := by rw [cellsP_len, List.length_drop]
  have hw0 : (w.drew).heap[g]? = some (.cells cl.toArray 71 (0, 0)) := hg
  have hcell : ∀ (W : World) (l : List Value), W.heap[g]? = some (.cells l.toArray 71 (0, 0)) → ∀ j, W.cell? ⟨g, j, none⟩ = l[j]? := fun W l hW j => by simp [World.cell?, hW]
  have hfroz : ∀ (W : World) (l : List Value), W.heap[g]? = some (.cells l.toArray 71 (0, 0)) → ∀ j, W.frozen? ⟨g, j, none⟩ = false := fun W l hW j => by simp [World.frozen?, hW]
  have hat : ∀ j u, (cellsL encP (ps.drop i))[j]? = some u → cl[i * 3 + j]? = some u := fun j u hj => by
    rw [cellsL_drop eltP.len ps i (by omega), List.getElem?_drop] at hj
    have h1 := (List.getElem?_eq_some_iff.1 hj).1
    rw [← htk, List.getElem?_take] at hj
    rw [cellsP_len] at h1
    rw [if_pos h1] at hj
    exact hj
  have hcp1 : ∀ ty, (Builtin.copy_ #[67, 67] ty #[.slice (some ⟨g, (i + 1) * 3, none⟩) (ps.length - i) (c - (i + 1)), .slice (some ⟨g, i * 3, none⟩) (ps.length + 1 - i) (c - i)]).run Tryz.prog w.drew = .ok (goInt (Nat.min (ps.length + 1 - i) (ps.length - i))) (w.drew.setCells g ((i + 1) * 3) (cellsL encP (ps.drop i))) := fun ty =>
    run_copy_k w.drew _ _ ty 71 g ((i + 1) * 3) (ps.length - i) _ ⟨g, i * 3, none⟩ (ps.length + 1 - i) _ 3 _ Tryz.underlying67 infoP3 (by rw [hdl]; congr 1; simp only [Nat.min_def]; split <;> omega)
      (fun j u hj => by rw [Addr.add_lit, hcell _ _ hw0]; exact hat j u hj)
      (fun j hj => by rw [hcell _ _ hw0, List.getElem?_eq_getElem (by rw [hcs]; omega)]; rfl)
      (fun j hj => hfroz _ _ hw0 _) (oneP _)
  obtain ⟨W1, hW1⟩ : ∃ W1, W1 = w.drew.setCells g ((i + 1) * 3) (cellsL encP (ps.drop i)) := ⟨_, rfl⟩
  rw [← hW1] at hcp1
  have hg1 : W1.heap[g]? = some (.cells (stL cl ((i + 1) * 3) (cellsL encP (ps.drop i))).toArray 71 (0, 0)) := by rw [hW1]; exact heap_setCells _ _ _ _ hw0
  have hon1 : Only (· = g) w.drew W1 := by rw [hW1]; exact only_setCells _ _ _
  have hv1 : W1.heap[vb]? = some (.cells (encP p).toArray 71 (0, 0)) := (hon1.block vb (Array.getElem?_eq_some_iff.1 hvb).1 hne).trans hvb
  have hcp2 : ∀ ty, (Builtin.copy_ #[67, 67] ty #[.slice (some ⟨g, i * 3, none⟩) (ps.length + 1 - i) (c - i), .slice (some ⟨vb, 0, none⟩) 1 1]).run Tryz.prog W1 = .ok (goInt (Nat.min 1 (ps.length + 1 - i))) (W1.setCells g (i * 3) (encP p)) := fun ty =>
    run_copy_k W1 _ _ ty 71 g (i * 3) (ps.length + 1 - i) _ ⟨vb, 0, none⟩ 1 _ 3 _ Tryz.underlying67 infoP3 (by
        have : Nat.min 1 (ps.length + 1 - i) = 1 := by simp only [Nat.min_def]; split <;> omega
        rw [this]; rfl)
      (fun j u hj => by rw [Addr.add_lit]; simp only [World.cell?, hv1]; simpa using hj)
      (fun j hj => by rw [hcell _ _ hg1, List.getElem?_eq_getElem (by rw [stL_length, hcs]; simp at hj; omega)]; rfl)
      (fun j hj => hfroz _ _ hg1 _) (fun u hu => eltP.one p u hu)
  have hg2 := heap_setCells (encP p) (i * 3) W1 _ hg1
  have hon2 : Only (· = g) W1 (W1.setCells g (i * 3) (encP p)) := only_setCells _ _ _
  have hfin : ROwn encP 71 3 0 (W1.setCells g (i * 3) (encP p)) (.slice (some ⟨g, 0, none⟩) (ps.length + 1) c) (ps.take i ++ p :: ps.drop i) := by
    have hlen : (ps.take i ++ p :: ps.drop i).length = ps.length + 1 := by simp; omega
    refine ⟨by rw [cellsP_len], .inr ⟨g, c, _, by rw [hlen], Nat.zero_le _, hg2, by omega, by unfold maxLen; omega, by simp [stL_length, hcs], ?_⟩⟩
    rw [hlen]
    show List.take _ (stL (stL cl ((i + 1) * 3) (cellsL encP (ps.drop i))) (i * 3) (encP p)) = _
    have h3 := stL_two cl (cellsL encP (ps.drop i)) (encP p) (i * 3) rfl (by rw [hdl, hcs]; omega)
    rw [hdl, show i * 3 + 3 + (ps.length - i) * 3 = (ps.length + 1) * 3 by omega, show i * 3 + 3 = (i + 1) * 3 by omega] at h3
    rw [h3, cellsL_append, cellsL_cons, cellsL_take eltP.len ps i (by omega), ← htk, List.take_take, Nat.min_eq_left (by omega)]
  have hov := fun lb cb => overlaps_no (lb := lb) (cb := cb) (o := (i + 1) * 3) (p := p) hne hvb hg (by rw [List.size_toArray]; omega)
  have HC1 := Lib.hid hcp1
  have HC2 := Lib.hid hcp2
  have HF := Lib.hid hfin
  have HON1 := Lib.hid hon1
  have HON := Lib.hid ((Only.refl (· = g) w).drew.trans (hon1.trans hon2))
  have hb1 : (0 : Int) ≤ (i : Int) + 1 := by omega
  have htn : ((i : Int) + 1).toNat = i + 1 := by omega
  have htn2 : ((ps.length : Int) + 1).toNat = ps.length + 1 := by omega
  have hb2 : ¬ (c = i + 1) := by omega
  have hb4 : ¬ (c = i) := by omega
  have hb5 : ¬ ((i : Int) = ps.length) := by omega
  have hb6 : ((i : Int) == ps.length) = false := by simpa using hb5
  have hil : (i : Int) ≤ ps.length := by omega
  have hil2 : (i : Int) < ps.length := by omega
  have hcr : (ps.length : Int) + 1 ≤ c := by omega
  have hcr2 : decide ((c : Int) < (ps.length : Int) + 1) = false := decide_eq_false (by omega)
  clear hcp1 hcp2 hfin hg2 hon2 hv1 hg1 hon1 hat hcell hfroz hw0 hdl htk hcs hg hvb h hW1
  go_enter Tryz.func58, Tryz.ntmps58
  go_wp2_with (simp only [hov])
  refine wp_region_mixO (fun k => k = g) 9 (.one [0, 1, 2, 3, 4, 5, 6, 7] 8 (.done [])) (by kernel_rfl) (fun c d v a w h => by cases d <;> exact h) (by kernel_rfl) ?_
  simp only [wpMixT, pk_nil, pk_cons, pushAt_zero, pushAt_succ, List.drop_succ_cons, List.drop_zero]
  repeat (go_big_quiet_step (fail))
  refine wpQuiet_nil ?_
  refine wpList_cp_run rfl _ _ _ rfl rfl rfl HC1.out ?_
  go_wp2_with fail
  refine thenQ_normal ⟨⟨⟨_, (Only.refl (fun k => k = g) w).drew.trans HON1.out⟩, rfl⟩, ?_⟩
  refine wpQuiet_nil ?_
  have hc2 := HC2.out
  go_wp2_with fail
  go_ret
  exact ⟨_, rfl, HF.out, HON.out.mono (fun k e => by subst e; rfl), .inl rfl⟩
end
section
variable {w w' : World} {ps : List PropE} {p : PropE} {v : Value} {A : Option Addr}
theorem stL_two' (cl D E : List Value) (i3 : Nat) (hE : E.length = 3) (h : i3 + 3 + D.length ≤ cl.length) : (stL (stL cl i3 E) (i3 + 3) D).take (i3 + 3 + D.length) = cl.take i3 ++ (E ++ D) := by
  rw [stL_eq D _ _ (by rw [stL_length]; omega), stL_eq E _ _ (by omega), hE]
  obtain ⟨R, hR⟩ : ∃ R, R = cl.drop (i3 + 3) := ⟨_, rfl⟩
  rw [← hR]
  have h1 : (cl.take i3 ++ E ++ R).take (i3 + 3) = cl.take i3 ++ E := List.take_left' (by rw [List.length_append, List.length_take, hE]; omega)
  rw [h1, List.take_append_of_le_length (by simp only [List.length_append, List.length_take, hE]; omega), List.take_of_length_le (by simp only [List.length_append, List.length_take, hE]; omega), List.append_assoc]
set_option maxRecDepth 100000 in
set_option maxHeartbeats 2000000 in
theorem ins_grow {g i vb : Nat} (h : ROwn encP 71 3 0 w (.slice (some ⟨g, 0, none⟩) ps.length ps.length) ps) (hi : i < ps.length) (hvb : w.heap[vb]? = some (.cells (encP p).toArray 71 (0, 0))) (hl : ps.length ≤ 1000) :
    Calls Tryz.prog 58 #[.slice (some ⟨g, 0, none⟩) ps.length ps.length, .int .i64 i, .slice (some ⟨vb, 0, none⟩) 1 1] w (InsP w (.slice (some ⟨g, 0, none⟩) ps.length ps.length) (ps.take i ++ p :: ps.drop i)) := by
  rcases h.2 with ⟨h0, _⟩ | ⟨g', c', cur, e, _, hg, hnc, hcm, hcs, htk⟩
  · cases h0
  cases e
  unfold maxLen at hcm
  obtain ⟨cl⟩ := cur
  simp only [List.size_toArray] at hcs
  simp only at htk
  obtain ⟨io, hio, hz0, hzs, hzb⟩ := infoP
  have hgl : g < w.heap.size := (Array.getElem?_eq_some_iff.1 hg).1
  have hvl : vb < w.heap.size := (Array.getElem?_eq_some_iff.1 hvb).1
  have hdl : (cellsL encP (ps.drop i)).length = (ps.length - i) * 3 := by rw [cellsP_len, List.length_drop]
  have htk' : cl = cellsL encP ps := by rw [← htk, List.take_of_length_le (by omega)]
  have hold : (Builtin.firstCells io.size i (.slice (some ⟨g, 0, none⟩) i ps.length)).run Tryz.prog w.drew = .ok (cl.take (i * 3)).toArray w.drew := by
    rw [hzs]
    exact run_firstCells_some w.drew 3 i ⟨g, 0, none⟩ i ps.length (cl.take (i * 3)) (by rw [List.length_take]; omega) (fun j u hj => by
      rw [Addr.add_lit]
      rw [Nat.zero_add, show w.drew.cell? ⟨g, j, none⟩ = cl[j]? by simp only [World.cell?, show w.drew.heap[g]? = some (.cells cl.toArray 71 (0, 0)) from hg]; simp]
      rw [List.getElem?_take] at hj
      split at hj
      · exact hj
      · cases hj)
  obtain ⟨G, hG⟩ : ∃ G, G = grownCap w (ps.length + 1) ps.length 71 := ⟨_, rfl⟩
  have hG1 : ps.length + 1 ≤ G := by rw [hG]; exact grownCap_ge w _ _ _
  have hG2 : G ≤ 9223372036854775807 := by
    have := grownCap_le_maxLen w (ps.length + 1) ps.length 71 (by unfold maxLen; omega)
    rw [← hG] at this
    unfold maxLen at this
    omega
  have hrz := fun ty => Lib.run_append_grow_zeros (P := Tryz.prog) w 67 3 ty 71 io _ .i64 .i64 Tryz.underlying67 Tryz.underlying3 hio hz0 (some ⟨g, 0, none⟩) i ps.length (cl.take (i * 3)) hold (ps.length + 1 - i) (by omega) (by omega) (by omega) (by omega) (by rw [hzb]; omega) (by rw [hzb, show i + (ps.length + 1 - i) = ps.length + 1 by omega]; exact growslice_fits (by omega) (by omega))
  rw [show i + (ps.length + 1 - i) = ps.length + 1 by omega, ← hG, show ((ps.length + 1 - i : Nat) : Int) = (ps.length : Int) + 1 - i by omega] at hrz
  obtain ⟨ROW, hROW⟩ : ∃ ROW : List Value, ROW.toArray = (cl.take (i * 3)).toArray ++ Builtin.zeroCells (Value.agg #[.int .i64 0, .int .i64 0, .int .i64 0]).cells (ps.length + 1 - i) ++ Builtin.zeroCells (Value.agg #[.int .i64 0, .int .i64 0, .int .i64 0]).cells (G - (ps.length + 1)) := ⟨Array.toList _, Array.toArray_toList⟩
  rw [← hROW] at hrz
  have hzc : ∀ m, (Builtin.zeroCells (Value.agg #[.int .i64 0, .int .i64 0, .int .i64 0]).cells m).size = 3 * m := fun m => by simp [Builtin.zeroCells, Value.cells, Nat.mul_comm]
  have hRs : ROW.length = G * 3 := by
    have := congrArg Array.size hROW
    simp only [List.size_toArray, Array.size_append, hzc, List.length_take] at this
    omega
  have hRt : ROW.take (i * 3) = cl.take (i * 3) := by
    have := congrArg (fun a => a.toList.take (i * 3)) hROW
    simp only [Array.toList_append, List.append_assoc] at this
    rw [this, List.take_append_of_le_length (by rw [List.length_take]; omega), List.take_take, Nat.min_self]
  obtain ⟨W1, hW1⟩ : ∃ W1, W1 = w.drew.alloc (.cells ROW.toArray 71) := ⟨_, rfl⟩
  rw [← hW1] at hrz
  have hB1 : Only (fun k => False) w W1 := by rw [hW1]; exact ((Only.refl (fun k => False) w).drew.alloc _)
  have hz1 : W1.heap.size = w.heap.size + 1 := by rw [hW1]; simp
  have hN1 : W1.heap[w.heap.size]? = some (.cells ROW.toArray 71 (0, 0)) := by rw [hW1]; exact (MapKept.heap_alloc w.drew _).1
  have hg1 : W1.heap[g]? = some (.cells cl.toArray 71 (0, 0)) := (hB1.block g hgl id).trans hg
  have hv1 : W1.heap[vb]? = some (.cells (encP p).toArray 71 (0, 0)) := (hB1.block vb hvl id).trans hvb
  have hcell : ∀ (q : Nat) (W : World) (l : List Value), W.heap[q]? = some (.cells l.toArray 71 (0, 0)) → ∀ j, W.cell? ⟨q, j, none⟩ = l[j]? := fun q W l hW j => by simp [World.cell?, hW]
  have hfroz : ∀ (q : Nat) (W : World) (l : List Value), W.heap[q]? = some (.cells l.toArray 71 (0, 0)) → ∀ j, W.frozen? ⟨q, j, none⟩ = false := fun q W l hW j => by simp [World.frozen?, hW]
  have hcp1 : ∀ ty, (Builtin.copy_ #[67, 67] ty #[.slice (some ⟨w.heap.size, i * 3, none⟩) (ps.length + 1 - i) (G - i), .slice (some ⟨vb, 0, none⟩) 1 1]).run Tryz.prog W1 = .ok (goInt (Nat.min 1 (ps.length + 1 - i))) (W1.setCells w.heap.size (i * 3) (encP p)) := fun ty =>
    run_copy_k W1 _ _ ty 71 w.heap.size (i * 3) (ps.length + 1 - i) _ ⟨vb, 0, none⟩ 1 _ 3 _ Tryz.underlying67 infoP3 (by
        have : Nat.min 1 (ps.length + 1 - i) = 1 := by simp only [Nat.min_def]; split <;> omega
        rw [this]; rfl)
      (fun j u hj => by rw [Addr.add_lit]; simp only [World.cell?, hv1]; simpa using hj)
      (fun j hj => by rw [hcell _ _ _ hN1, List.getElem?_eq_getElem (by simp at hj; omega)]; rfl)
      (fun j hj => hfroz _ _ _ hN1 _) (fun u hu => eltP.one p u hu)
  obtain ⟨W2, hW2⟩ : ∃ W2, W2 = W1.setCells w.heap.size (i * 3) (encP p) := ⟨_, rfl⟩
  rw [← hW2] at hcp1
  have hon2 : Only (· = w.heap.size) W1 W2 := by rw [hW2]; exact only_setCells _ _ _
  have hN2 : W2.heap[w.heap.size]? = some (.cells (stL ROW (i * 3) (encP p)).toArray 71 (0, 0)) := by rw [hW2]; exact heap_setCells _ _ _ _ hN1
  have hg2 : W2.drew.heap[g]? = some (.cells cl.toArray 71 (0, 0)) := (hon2.block g (by omega) (by show g ≠ w.heap.size; omega)).trans hg1
  have hN2' : W2.drew.heap[w.heap.size]? = some (.cells (stL ROW (i * 3) (encP p)).toArray 71 (0, 0)) := hN2
  have hcp2 : ∀ ty, (Builtin.copy_ #[67, 67] ty #[.slice (some ⟨w.heap.size, (i + 1) * 3, none⟩) (ps.length - i) (G - (i + 1)), .slice (some ⟨g, i * 3, none⟩) (ps.length - i) (ps.length - i)]).run Tryz.prog W2.drew = .ok (goInt (Nat.min (ps.length - i) (ps.length - i))) (W2.drew.setCells w.heap.size ((i + 1) * 3) (cellsL encP (ps.drop i))) := fun ty =>
    run_copy_k W2.drew _ _ ty 71 w.heap.size ((i + 1) * 3) (ps.length - i) _ ⟨g, i * 3, none⟩ (ps.length - i) _ 3 _ Tryz.underlying67 infoP3 (by rw [hdl]; congr 1; exact (Nat.min_self _).symm)
      (fun j u hj => by rw [Addr.add_lit, hcell _ _ _ hg2, htk']; rw [cellsL_drop eltP.len ps i (by omega), List.getElem?_drop] at hj; exact hj)
      (fun j hj => by rw [hcell _ _ _ hN2', List.getElem?_eq_getElem (by rw [stL_length, hRs]; omega)]; rfl)
      (fun j hj => hfroz _ _ _ hN2' _) (oneP _)
  obtain ⟨W3, hW3⟩ : ∃ W3, W3 = W2.drew.setCells w.heap.size ((i + 1) * 3) (cellsL encP (ps.drop i)) := ⟨_, rfl⟩
  rw [← hW3] at hcp2
  have hon3 : Only (· = w.heap.size) W2.drew W3 := by rw [hW3]; exact only_setCells _ _ _
  have hN3 : W3.heap[w.heap.size]? = some (.cells (stL (stL ROW (i * 3) (encP p)) ((i + 1) * 3) (cellsL encP (ps.drop i))).toArray 71 (0, 0)) := by rw [hW3]; exact heap_setCells _ _ _ _ hN2'
  have hfin : ROwn encP 71 3 0 W3 (.slice (some ⟨w.heap.size, 0, none⟩) (ps.length + 1) G) (ps.take i ++ p :: ps.drop i) := by
    have hlen : (ps.take i ++ p :: ps.drop i).length = ps.length + 1 := by simp; omega
    refine ⟨by rw [cellsP_len], .inr ⟨w.heap.size, G, _, by rw [hlen], Nat.zero_le _, hN3, by omega, by unfold maxLen; omega, by simp [stL_length, hRs], ?_⟩⟩
    rw [hlen]
    have h3 := stL_two' ROW (cellsL encP (ps.drop i)) (encP p) (i * 3) rfl (by rw [hdl, hRs]; omega)
    rw [hdl, show i * 3 + 3 + (ps.length - i) * 3 = (ps.length + 1) * 3 by omega, show i * 3 + 3 = (i + 1) * 3 by omega] at h3
    show List.take _ (stL (stL ROW (i * 3) (encP p)) ((i + 1) * 3) (cellsL encP (ps.drop i))) = _
    rw [h3, cellsL_append, cellsL_cons, cellsL_take eltP.len ps i (by omega), hRt, htk']
  have hfo : Only (fun k => (Value.slice (some ⟨g, 0, none⟩) ps.length ps.length).ownBlock = some k) w W3 :=
    (hB1.mono fun _ h => h.elim).then ((hon2.drew).trans (hon3)) (fun k hk hlt => by have : k = w.heap.size := hk; omega)
  have HRZ := Lib.hid hrz
  have HC1 := Lib.hid hcp1
  have HC2 := Lib.hid hcp2
  have HF := Lib.hid hfin
  have HFO := Lib.hid hfo
  have HON3 := Lib.hid hon3
  have hb1 : (0 : Int) ≤ (i : Int) + 1 := by omega
  have htn : ((i : Int) + 1).toNat = i + 1 := by omega
  have hb2 : ¬ (G = i + 1) := by omega
  have hb4 : ¬ (G = i) := by omega
  have hb7 : ¬ (ps.length = i) := by omega
  have hb5 : ¬ ((i : Int) = ps.length) := by omega
  have hb6 : ((i : Int) == ps.length) = false := by simpa using hb5
  have hil : (i : Int) ≤ ps.length := by omega
  have hil2 : (i : Int) < ps.length := by omega
  clear hrz hcp1 hcp2 hfin hfo hN3 hon3 hW3 hN2' hg2 hN2 hon2 hW2 hcell hfroz hv1 hg1 hN1 hz1 hB1 hW1 hRt hRs hzc hROW hG hold htk' hdl hvl hzb hzs hz0 hio htk hcs hg hvb h
  go_enter Tryz.func58, Tryz.ntmps58
  have hc1 := HC1.out
  go_wp2_with (at_builtin; refine Lib.wpList_append_run _ rfl _ _ _ _ rfl _ _ rfl rfl _ _ (HRZ.out _) ?_)
  refine wp_region_mixO (fun k => k = w.heap.size) 9 (.one [0, 1, 2, 3, 4, 5, 6, 7] 8 (.done [])) (by kernel_rfl) (fun c d v a w h => by cases d <;> exact h) (by kernel_rfl) ?_
  simp only [wpMixT, pk_nil, pk_cons, pushAt_zero, pushAt_succ, List.drop_succ_cons, List.drop_zero]
  repeat (go_big_quiet_step (fail))
  refine wpQuiet_nil ?_
  refine wpList_cp_run rfl _ _ _ rfl rfl rfl HC2.out ?_
  go_wp2_with fail
  refine thenQ_normal ⟨⟨⟨_, (Only.refl (fun k => k = w.heap.size) W2).drew.trans HON3.out⟩, rfl⟩, ?_⟩
  refine wpQuiet_nil ?_
  go_wp2_with fail
  go_ret
  exact ⟨_, rfl, HF.out, HFO.out, .inr ⟨_, rfl, Nat.le_refl _⟩⟩
end
section
variable {w w' : World} {ps : List PropE} {p : PropE} {v : Value} {A : Option Addr}
theorem ins_any (h : ROwn encP 71 3 0 w v ps) {i vb : Nat} (hi : i ≤ ps.length) (hvb : w.heap[vb]? = some (.cells (encP p).toArray 71 (0, 0))) (hne : v.ownBlock ≠ some vb) (hl : ps.length ≤ 1000) :
    Calls Tryz.prog 58 #[v, .int .i64 i, .slice (some ⟨vb, 0, none⟩) 1 1] w (InsP w v (ps.take i ++ p :: ps.drop i)) := by
  by_cases he : i = ps.length
  · subst he
    rw [List.take_of_length_le (Nat.le_refl _), List.drop_of_length_le (Nat.le_refl _)]
    exact ins_end h vb (RSl.oneAt hvb rfl) hl
  · rcases h.2 with ⟨rfl, h0⟩ | ⟨g, c, cur, rfl, _, _, hnc, _⟩
    · omega
    · by_cases hc : ps.length + 1 ≤ c
      · exact ins_shift h (by omega) hc (fun e => hne (by subst e; rfl)) hvb hl
      · obtain rfl : c = ps.length := by omega
        exact ins_grow h (by omega) hvb hl
/-- 'clear' of spare cells behind a slice of the call's own. -/
theorem clear_tail {g cap j c : Nat} (h : ROwn encP 71 3 0 w (.slice (some ⟨g, 0, none⟩) ps.length cap) ps) (hj : ps.length < j) (hjc : j ≤ cap) :
    ∃ w', (∀ ty, (Builtin.clear_ #[67] ty #[.slice (some ⟨g, ps.length * 3, none⟩) (j - ps.length) c]).run Tryz.prog w = .ok (.tuple #[]) w') ∧ ROwn encP 71 3 0 w' (.slice (some ⟨g, 0, none⟩) ps.length cap) ps ∧ Only (· = g) w w' := by
  rcases h.2 with ⟨h0, _⟩ | ⟨g', c', cur, e, hb, hg, hnc, hcm, hcs, htk⟩
  · cases h0
  cases e
  have hlen : ∀ m, (Builtin.zeroCells (Value.agg #[.int .i64 0, .int .i64 0, .int .i64 0]).cells m).toList.length = m * 3 := fun m => by simp [Builtin.zeroCells, Value.cells, Nat.mul_comm]
  have hone : ∀ m, ∀ u ∈ (Builtin.zeroCells (Value.agg #[.int .i64 0, .int .i64 0, .int .i64 0]).cells m).toList, u.oneCell' = true := fun m u hu => by
    simp only [Builtin.zeroCells, Array.mem_toList_iff, Array.mem_map] at hu
    obtain ⟨q, _, rfl⟩ := hu
    have h3 : q % 3 < 3 := Nat.mod_lt _ (by omega)
    have hcase : q % 3 = 0 ∨ q % 3 = 1 ∨ q % 3 = 2 := by omega
    simp only [Value.cells, List.size_toArray, List.length_cons, List.length_nil]
    rcases hcase with e | e | e <;> (simp only [Nat.zero_add, Nat.reduceAdd, e]; rfl)
  have hst := run_storeCells_cells (P := Tryz.prog) g (ps.length * 3) (Builtin.zeroCells (Value.agg #[.int .i64 0, .int .i64 0, .int .i64 0]).cells (j - ps.length)).toList 0 w
    (by rw [hlen]; intro q hq; simp only [World.cell?, hg]; simp; omega) (by intro q hq; simp [World.frozen?, hg]) (hone _)
  simp only [Nat.add_zero] at hst
  refine ⟨_, fun ty => ?_, ?_, only_setCells (Builtin.zeroCells (Value.agg #[.int .i64 0, .int .i64 0, .int .i64 0]).cells (j - ps.length)).toList (ps.length * 3) w⟩
  · obtain ⟨m, hm⟩ : ∃ m, j - ps.length = m + 1 := ⟨j - ps.length - 1, by omega⟩
    have hzv : (zeroValue 71).run Tryz.prog w = .ok (.agg #[.int .i64 0, .int .i64 0, .int .i64 0]) w := by kernel_rfl
    rw [hm] at hst ⊢
    simp [Builtin.clear_, run_underlying Tryz.underlying67, hzv, hst]
  · obtain ⟨cl⟩ := cur
    simp only [List.size_toArray] at hcs
    simp only at htk
    have h2 := heap_setCells (Builtin.zeroCells (Value.agg #[.int .i64 0, .int .i64 0, .int .i64 0]).cells (j - ps.length)).toList (ps.length * 3) w cl hg
    refine ⟨by rw [cellsP_len], .inr ⟨g, cap, _, rfl, hb, h2, hnc, hcm, by simp [stL_length, hcs], ?_⟩⟩
    show List.take _ (stL cl _ _) = _
    rw [stL_eq _ _ _ (by rw [hlen, hcs]; omega), List.append_assoc, List.take_append_of_le_length (by rw [List.length_take]; omega), List.take_take, Nat.min_self]
    exact htk
set_option maxRecDepth 100000 in
set_option maxHeartbeats 2000000 in
theorem del_any {g c i m : Nat} (h : ROwn encP 71 3 0 w (.slice (some ⟨g, 0, none⟩) (m + 1) c) ps) (hm : ps.length = m + 1) (hi : i ≤ m) (hl : ps.length ≤ 1000) :
    Calls Tryz.prog 64 #[.slice (some ⟨g, 0, none⟩) (m + 1) c, .int .i64 i, .int .i64 ((i : Int) + 1)] w (InsP w (.slice (some ⟨g, 0, none⟩) (m + 1) c) (ps.take i ++ ps.drop (i + 1))) := by
  rcases h.2 with ⟨h0, _⟩ | ⟨g', c', cur, e, hb, hg, hnc, hcm, hcs, htk⟩
  · cases h0
  rw [hm] at e
  cases e
  unfold maxLen at hcm
  obtain ⟨cl⟩ := cur
  simp only [List.size_toArray] at hcs
  rw [hm] at hnc
  simp only [hm] at htk
  obtain ⟨io, hio, hz0, hzs, hzb⟩ := infoP
  have hdl : (cellsL encP (ps.drop (i + 1))).length = (m - i) * 3 := by rw [cellsP_len, List.length_drop, hm]; congr 1; omega
  have hgd : w.drew.heap[g]? = some (.cells cl.toArray 71 (0, 0)) := hg
  have hcell : ∀ j, w.drew.cell? ⟨g, j, none⟩ = cl[j]? := fun j => by simp [World.cell?, hgd]
  have hat : ∀ j u, (cellsL encP (ps.drop (i + 1)))[j]? = some u → cl[(i + 1) * 3 + j]? = some u := fun j u hj => by
    rw [cellsL_drop eltP.len ps (i + 1) (by omega), List.getElem?_drop] at hj
    have h1 := (List.getElem?_eq_some_iff.1 hj).1
    rw [← htk, List.getElem?_take] at hj
    rw [cellsP_len, hm] at h1
    rw [if_pos h1] at hj
    exact hj
  have happ := fun ty (o cc : Nat) (hnews : ∀ j u, (cellsL encP (ps.drop (i + 1)))[j]? = some u → w.drew.cell? ((⟨g, o, none⟩ : Addr).add j) = some u) => run_append_room_cells (P := Tryz.prog) w.drew 67 ty 71 io Tryz.underlying67 hio g 0 i c ⟨g, o, none⟩ (m - i) cc (cellsL encP (ps.drop (i + 1))) (by rw [hdl, hzs]) hnews (oneP _) (by omega)
    (fun j hj => by rw [hcell, List.getElem?_eq_getElem (by rw [hdl] at hj; rw [hzs, hcs]; omega)]; rfl) (fun j hj => by simp [World.frozen?, hgd])
  rw [hzs, Nat.zero_add, show i + (m - i) = m by omega] at happ
  obtain ⟨W1, hW1⟩ : ∃ W1, W1 = w.drew.setCells g (i * 3) (cellsL encP (ps.drop (i + 1))) := ⟨_, rfl⟩
  rw [← hW1] at happ
  have hon1 : Only (· = g) w.drew W1 := by rw [hW1]; exact only_setCells _ _ _
  have hg1 : W1.heap[g]? = some (.cells (stL cl (i * 3) (cellsL encP (ps.drop (i + 1)))).toArray 71 (0, 0)) := by rw [hW1]; exact heap_setCells _ _ _ _ hgd
  obtain ⟨qs, hqs⟩ : ∃ qs, qs = ps.take i ++ ps.drop (i + 1) := ⟨_, rfl⟩
  have hql : qs.length = m := by rw [hqs]; simp; omega
  have hown : ROwn encP 71 3 0 W1 (.slice (some ⟨g, 0, none⟩) qs.length c) qs := by
    refine ⟨by rw [cellsP_len], .inr ⟨g, c, _, rfl, Nat.zero_le _, hg1, by omega, by unfold maxLen; omega, by simp [stL_length, hcs], ?_⟩⟩
    show List.take _ (stL cl (i * 3) (cellsL encP (ps.drop (i + 1)))) = _
    have hL2 : (ps.take i ++ ps.drop (i + 1)).length = m := by rw [← hqs]; exact hql
    have hL3 : (cl.take (i * 3) ++ cellsL encP (ps.drop (i + 1))).length = m * 3 := by rw [List.length_append, hdl, List.length_take]; omega
    rw [stL_eq _ _ _ (by rw [hdl, hcs]; omega), hqs, hL2, cellsL_append, cellsL_take eltP.len ps i (by omega), ← htk, List.take_take, Nat.min_eq_left (by omega)]
    rw [List.take_append_of_le_length (by omega), List.take_of_length_le (by omega)]
  obtain ⟨w2, hclr, hown2, hon2⟩ := clear_tail (c := c - m) (j := m + 1) hown (by omega) (by omega)
  rw [hql] at hclr hown2
  rw [show m + 1 - m = 1 by omega] at hclr
  rw [← hqs]
  have hA := happ
  have HA1 := Lib.hid (fun (he : ¬ c = i + 1) ty => happ ty ((i + 1) * 3) (c - (i + 1)) (fun j u hj => by rw [Addr.add_lit, hcell]; exact hat j u hj))
  have HA2 := Lib.hid (fun (he : c = i + 1) ty => happ ty 0 (c - (i + 1)) (fun j u hj => by have := (List.getElem?_eq_some_iff.1 hj).1; rw [hdl] at this; omega))
  have HCL := Lib.hid hclr
  have HO := Lib.hid hown2
  have HON1 := Lib.hid hon1
  have HON := Lib.hid ((Only.refl (· = g) w).drew.trans (hon1.trans hon2))
  have hb1 : (0 : Int) ≤ (i : Int) + 1 := by omega
  have htn : ((i : Int) + 1).toNat = i + 1 := by omega
  have hb4 : ¬ (c = i) := by omega
  have hb5 : ¬ (c = m) := by omega
  have hb6 : (i : Int) + 1 ≤ (m : Int) + 1 := by omega
  have hb7 : ((i : Int) == (i : Int) + 1) = false := beq_eq_false_iff_ne.2 (by omega)
  have hb8 : (m : Int) + 1 ≤ c := by omega
  clear happ hA hat hcell hgd hon1 hg1 hown hclr hown2 hon2 hW1 hdl hzb hzs hz0 hio htk hcs hg h hqs hql
  by_cases hc : c = i + 1
  · obtain rfl : m = i := by omega
    subst hc
    have haa := HA2.out rfl
    rw [Nat.sub_self, Nat.sub_self] at haa
    have HAA := Lib.hid haa
    clear HA1 HA2 haa
    go_enter Tryz.func64, Tryz.ntmps64
    go_wp2_with fail
    refine wp_region_mixO (fun k => k = g) 8 (.one [0, 1, 2, 3, 4, 5] 6 (.done [7])) (by kernel_rfl) (fun c d v a w h => by cases d <;> exact h) (by kernel_rfl) ?_
    simp only [wpMixT, pk_nil, pk_cons, pushAt_zero, pushAt_succ, List.drop_succ_cons, List.drop_zero]
    repeat (go_big_quiet_step (fail))
    refine wpQuiet_nil ?_
    refine wpList_app_run rfl _ _ _ rfl rfl rfl HAA.out ?_
    go_wp2_with fail
    refine thenQ_normal ⟨⟨⟨_, (Only.refl (fun k => k = g) w).drew.trans HON1.out⟩, rfl⟩, ?_⟩
    repeat (go_big_quiet_step (fail))
    refine wpQuiet_nil ?_
    have hcl := HCL.out
    rw [Nat.add_sub_cancel_left] at hcl
    go_wp2_with fail
    go_ret
    exact ⟨_, rfl, HO.out, HON.out.mono (fun k e => by subst e; rfl), .inl rfl⟩
  · have HAA := Lib.hid (HA1.out hc)
    clear HA1 HA2
    go_enter Tryz.func64, Tryz.ntmps64
    go_wp2_with fail
    refine wp_region_mixO (fun k => k = g) 8 (.one [0, 1, 2, 3, 4, 5] 6 (.done [7])) (by kernel_rfl) (fun c d v a w h => by cases d <;> exact h) (by kernel_rfl) ?_
    simp only [wpMixT, pk_nil, pk_cons, pushAt_zero, pushAt_succ, List.drop_succ_cons, List.drop_zero]
    repeat (go_big_quiet_step (fail))
    refine wpQuiet_nil ?_
    refine wpList_app_run rfl _ _ _ rfl rfl rfl HAA.out ?_
    go_wp2_with fail
    refine thenQ_normal ⟨⟨⟨_, (Only.refl (fun k => k = g) w).drew.trans HON1.out⟩, rfl⟩, ?_⟩
    repeat (go_big_quiet_step (fail))
    refine wpQuiet_nil ?_
    have hcl := HCL.out
    go_wp2_with fail
    go_ret
    exact ⟨_, rfl, HO.out, HON.out.mono (fun k e => by subst e; rfl), .inl rfl⟩
end
end Go.Proofs.YthjkdeocdhdkaaaGreat
