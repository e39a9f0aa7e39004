import Derived.Test.YtcfdalmllegefaaGreatDoorZ19
import Derived.Test.YtcfdalmllegefaaGreatDoorZ10
import Derived.Test.YtcfdalmllegefaaGreatDoorZ06
import Derived.Test.YtcfdalmllegefaaGreatDoorZ00
import Derived.IntWalk
import Derived.Test.YtcfdalmllegefaaGreatDoorZ17
import Derived.Test.YtcfdalmllegefaaGreatDoorZ18
import Derived.Test.YtcfdalmllegefaaGreatDoorZ09
import Derived.Test.YtcfdalmllegefaaGreatDoorZ01
/- package column: FillText's closure. -/
namespace Go.Proofs.YtcfdalmllegefaaGreatDoor
open Go.RowKit Go.Lib
set_option linter.unusedVariables false
set_option linter.unusedSimpArgs false
section
variable {w w' : World}
theorem not_empty_enc {par : List Nat} (hN : ∀ c ∈ par, isN c) (h : par ≠ []) : ((encS par).toList == ([] : List UInt8)) = false ∧ ((encS par).toList = []) = False := by
  have : (encS par).toList ≠ [] := fun e => h (by
    have e1 : encS par = ⟨#[]⟩ := bytes_ext (by rw [ByteArray.toList_eq] at e; rw [e])
    have e2 : encS par = encS [] := e1
    have := congrArg chrs e2
    rwa [(chrs_encS hN).1, (chrs_encS (cs := []) (by simp)).1] at this)
  exact ⟨by rw [beq_eq_false_iff_ne]; exact this, eq_false this⟩
/-- What the closure turns: the two boxes. -/
def FlushP (w : World) (p o : Nat) (most tab : Nat) (par out : List Nat) (w' : World) : Prop :=
  Only (fun k => k = p ∨ k = o) w w' ∧ Blk w' p 9 #[.string (encS [])] ∧ Blk w' o 9 #[.string (encS (out ++ flC widN most tab par))]
set_option maxRecDepth 100000 in
set_option maxHeartbeats 4000000 in
theorem flush_ok {p o m t : Nat} {most tab : Nat} {par out : List Nat} (hpo : p ≠ o) (hp : Blk w p 9 #[.string (encS par)]) (ho : Blk w o 9 #[.string (encS out)]) (hm : Blk w m 3 #[.int .i64 most]) (ht : Blk w t 3 #[.int .i64 tab])
    (hN : ∀ c ∈ par, isN c) (hps : (encS par).size ≤ 16000) (hos : (encS out).size ≤ 200000000) (h1 : most ≤ 1000) (h2 : 1 ≤ tab) (h3 : tab ≤ 64) :
    Calls Tryz.prog 48 #[pAt p, pAt o, pAt m, pAt t] w fun e w' => e = .returned (.tuple #[]) ∧ FlushP w p o most tab par out w' := by
  have cp := hp.cell (j := 0) rfl
  by_cases h0 : par = []
  · subst h0
    have e0 : encS [] = ⟨#[]⟩ := rfl
    rw [e0] at cp
    have HP := Lib.hid hp
    have HO := Lib.hid ho
    clear hp ho hm ht hN hps hos
    go_enter Tryz.func48, Tryz.ntmps48
    go_wp2_with fail
    go_end0
    refine ⟨rfl, Only.refl _ _, HP.out, ?_⟩
    unfold flC; rw [if_pos rfl, List.append_nil]; exact HO.out
  · obtain ⟨n1, n2⟩ := not_empty_enc hN h0
    obtain ⟨PS, hPS⟩ : ∃ x, x = encS par := ⟨_, rfl⟩
    obtain ⟨OS, hOS⟩ : ∃ x, x = encS out := ⟨_, rfl⟩
    have hch : charsD PS.data.toList = some par := by rw [hPS, encS_list]; exact chars_enc _ hN
    rw [← hPS] at n1 n2 cp hp hps
    rw [← hOS] at ho hos
    obtain ⟨FS, hFS⟩ : ∃ x, x = encS (fillC widN most tab par) := ⟨_, rfl⟩
    have hF := fun w' => (hFS ▸ fill_ok hch hps most tab h1 h2 h3 w' : Calls Tryz.prog 49 #[.string PS, .int .i64 most, .int .i64 tab] w' fun e w'' => e = .returned (.string FS) ∧ Below w'.heap.size w' w'')
    have hfs : FS.size ≤ 1000000000 := by
      have e1 := fl_size widN most tab par hN
      unfold flC at e1
      rw [if_neg h0, ← encS_len, ← hFS, ← encS_len, ← hPS] at e1
      have e2 := capN_mono hps
      have e3 : capN 16000 = 256112000 := rfl
      rw [e3] at e2
      omega
    have hsum : (9223372036854775807 < OS.size + FS.size) = False := eq_false (by omega)
    have HF := fun w' => Lib.hid (hF w')
    have HP := Lib.hid hp
    have HO := Lib.hid ho
    have HD := Lib.hid hpo
    have C0 : ∀ x : UpW w.heap.size w, x.w.cell? ⟨p, 0, none⟩ = some (.string PS) := fun x => (hp.up x.up).cell (j := 0) rfl
    have C1 : ∀ x : UpW w.heap.size w, x.w.cell? ⟨o, 0, none⟩ = some (.string OS) := fun x => (ho.up x.up).cell (j := 0) rfl
    have C2 : ∀ x : UpW w.heap.size w, x.w.cell? ⟨m, 0, none⟩ = some (.int .i64 most) := fun x => (hm.up x.up).cell (j := 0) rfl
    have C3 : ∀ x : UpW w.heap.size w, x.w.cell? ⟨t, 0, none⟩ = some (.int .i64 tab) := fun x => (ht.up x.up).cell (j := 0) rfl
    have HOS := Lib.hid hOS
    have HFS := Lib.hid hFS
    have H0 := Lib.hid h0
    clear hF hPS hOS hFS hch hp ho hm ht hN h0 hps hos hfs
    go_enter Tryz.func48, Tryz.ntmps48
    go_wp2_with fail
    clear cp
    refine wp_region_mixS (fun k => k = p ∨ k = o) [6, 7] (.one [(0, true), (1, true), (2, true), (3, true)] 4 (.one [(5, true)] 6 (.one [] 7 (.done [])))) (by kernel_rfl) (fun c d v a w h => by cases d <;> exact h) (by kernel_rfl) ?_
    simp only [wpMixS, wpQ2, pk_nil, pk_cons, pushAt_zero, pushAt_succ, List.contains_cons, List.contains_nil, Bool.false_or, Bool.or_false, Bool.true_or, Bool.or_true, Nat.reduceBEq, Nat.reduceEqDiff]
    repeat (first | go_big_quiet_step (fail) | refine wpQuiet_nil ?_)
    clear C0 C1 C2 C3
    go_wp2_with fail
    refine (HF _).out.mono ?_
    rintro e w2 ⟨rfl, hb2⟩
    have hb2' : Below w.heap.size w w2 := (Below.refl _ w).drew.trans hb2
    have ho2 := HO.out.up hb2'
    have hp2 := HP.out.up hb2'
    have HO2 := Lib.hid ho2
    have HP2 := Lib.hid hp2
    clear hb2
    go_wp2_with fail
    refine thenQ_normal ⟨⟨⟨_, hb2'⟩, rfl⟩, ?_⟩
    repeat (first | go_big_quiet_step (fail) | refine wpQuiet_nil ?_)
    have k1 := ho2.cell (j := 0) rfl
    have f1 := ho2.fz 0
    clear ho2 hp2
    go_wp2_with fail
    have hon : Only (fun k => k = p ∨ k = o) w (w2.setCell ⟨o, 0, none⟩ (.string (OS ++ FS))) := (Only.of_below (S := fun k => k = p ∨ k = o) hb2').setCell (p := ⟨o, 0, none⟩) (.inr rfl) _
    refine thenQ_normal ⟨⟨⟨_, hon⟩, rfl⟩, ?_⟩
    clear k1 f1
    have HO3 := Lib.hid (HO2.out.set (j := 0) (by simp) (.string (OS ++ FS)))
    have HP3 := Lib.hid (HP2.out.kept (w' := w2.setCell ⟨o, 0, none⟩ (.string (OS ++ FS))) (Below.heap_setCell _ _ _ _ HD.out))
    clear HO2 HP2
    generalize w2.setCell ⟨o, 0, none⟩ (.string (OS ++ FS)) = w3 at *
    have k1 := HP3.out.cell (j := 0) rfl
    have f1 := HP3.out.fz 0
    go_wp2_with fail
    have hon2 : Only (fun k => k = p ∨ k = o) w (w3.setCell ⟨p, 0, none⟩ (.string ⟨#[]⟩)) := hon.setCell (p := ⟨p, 0, none⟩) (.inl rfl) _
    refine thenQ_normal ⟨⟨⟨_, hon2⟩, rfl⟩, ?_⟩
    clear k1 f1
    go_wp2_with fail
    go_end0
    refine ⟨rfl, hon2, HP3.out.set (j := 0) (by simp) (.string ⟨#[]⟩), ?_⟩
    have := HO3.out.kept (w' := w3.setCell ⟨p, 0, none⟩ (.string ⟨#[]⟩)) (Below.heap_setCell _ _ _ _ (fun e => HD.out e.symm))
    rw [HOS.out, HFS.out] at this
    unfold flC
    rw [if_neg H0.out, ← encS_append]
    exact this
end
end Go.Proofs.YtcfdalmllegefaaGreatDoor
/- package column: FillText. -/
namespace Go.Proofs.YtcfdalmllegefaaGreatDoor
open Go.RowKit Go.Shelf Go.Lib
set_option linter.unusedVariables false
set_option linter.unusedSimpArgs false
theorem keepsO_below {w w' : World} (h : Below w.heap.size w w') : KeepsOthers w w' :=
  ⟨h.size, fun k o hk _ => (h.block k (Array.getElem?_eq_some_iff.1 hk).1).trans hk⟩
theorem keepsO_only {S : Nat → Prop} {w w' : World} (h : Only S w w') (hc : ∀ k, S k → ∃ cs T, w.heap[k]? = some (.cells cs T)) : KeepsOthers w w' :=
  ⟨h.size, fun k o hk ho => (h.block k (Array.getElem?_eq_some_iff.1 hk).1 (fun hs => by
    obtain ⟨cs, T, e⟩ := hc k hs
    rw [hk] at e; cases e; cases ho)).trans hk⟩
theorem Blk.grown {W W' : World} {b : Nat} {T : TypeId} {cs : Array Value} {row : Option Nat} (h : Blk W b T cs) (hg : W.grownBy W' row) (hr : ∀ r, row = some r → ∃ o : Obj, W.heap[r]? = some o ∧ o.isCells = false) : Blk W' b T cs :=
  h.kept (grownBy_keeps_cells hg hr h rfl)
/-- The boxes of FillText. -/
structure FBox (W : World) (bm bt bo bp bf : Nat) (most tab : Nat) (out par : List Nat) : Prop where
  m : Blk W bm 3 #[.int .i64 most]
  t : Blk W bt 3 #[.int .i64 tab]
  o : Blk W bo 9 #[.string (encS out)]
  p : Blk W bp 9 #[.string (encS par)]
  f : Blk W bf 1 #[.func (.func 48) #[] #[pAt bp, pAt bo, pAt bm, pAt bt]]
section
variable {W W' : World} {bm bt bo bp bf most tab : Nat} {out par : List Nat}
theorem FBox.kept (h : FBox W bm bt bo bp bf most tab out par) (hk : ∀ k, k = bm ∨ k = bt ∨ k = bo ∨ k = bp ∨ k = bf → W'.heap[k]? = W.heap[k]?) : FBox W' bm bt bo bp bf most tab out par :=
  ⟨h.m.kept (hk _ (.inl rfl)), h.t.kept (hk _ (.inr (.inl rfl))), h.o.kept (hk _ (.inr (.inr (.inl rfl)))), h.p.kept (hk _ (.inr (.inr (.inr (.inl rfl))))), h.f.kept (hk _ (.inr (.inr (.inr (.inr rfl)))))⟩
theorem FBox.lt (h : FBox W bm bt bo bp bf most tab out par) {k : Nat} (hk : k = bm ∨ k = bt ∨ k = bo ∨ k = bp ∨ k = bf) : k < W.heap.size := by
  rcases hk with rfl | rfl | rfl | rfl | rfl
  · exact h.m.lt
  · exact h.t.lt
  · exact h.o.lt
  · exact h.p.lt
  · exact h.f.lt
theorem FBox.up (h : FBox W bm bt bo bp bf most tab out par) (hb : Below W.heap.size W W') : FBox W' bm bt bo bp bf most tab out par := h.kept fun k hk => hb.block k (h.lt hk)
theorem FBox.grown {row : Option Nat} (h : FBox W bm bt bo bp bf most tab out par) (hg : W.grownBy W' row) (hr : ∀ r, row = some r → ∃ o : Obj, W.heap[r]? = some o ∧ o.isCells = false) : FBox W' bm bt bo bp bf most tab out par :=
  ⟨h.m.grown hg hr, h.t.grown hg hr, h.o.grown hg hr, h.p.grown hg hr, h.f.grown hg hr⟩
/-- Which boxes are apart. -/
structure FApart (bm bt bo bp bf Bs : Nat) : Prop where
  po : bp ≠ bo
  pm : bp ≠ bm
  pt : bp ≠ bt
  pf : bp ≠ bf
  om : bo ≠ bm
  ot : bo ≠ bt
  of : bo ≠ bf
  sm : bm ≠ Bs
  st : bt ≠ Bs
  so : bo ≠ Bs
  sp : bp ≠ Bs
  sf : bf ≠ Bs
theorem FBox.box {Bs : Nat} (h : FBox W bm bt bo bp bf most tab out par) (ha : FApart bm bt bo bp bf Bs) (v : Value) : FBox (W.setCell ⟨Bs, 0, none⟩ v) bm bt bo bp bf most tab out par :=
  h.kept fun k hk => Below.heap_setCell _ _ _ _ (by
    show k ≠ Bs
    rcases hk with rfl | rfl | rfl | rfl | rfl
    · exact ha.sm
    · exact ha.st
    · exact ha.so
    · exact ha.sp
    · exact ha.sf)
theorem FBox.setP {Bs : Nat} (h : FBox W bm bt bo bp bf most tab out par) (ha : FApart bm bt bo bp bf Bs) (par' : List Nat) : FBox (W.setCell ⟨bp, 0, none⟩ (.string (encS par'))) bm bt bo bp bf most tab out par' :=
  have k : ∀ {j}, j ≠ bp → (W.setCell ⟨bp, 0, none⟩ (.string (encS par'))).heap[j]? = W.heap[j]? := fun e => Below.heap_setCell _ _ _ _ e
  ⟨h.m.kept (k (fun e => ha.pm e.symm)), h.t.kept (k (fun e => ha.pt e.symm)), h.o.kept (k (fun e => ha.po e.symm)), h.p.set (j := 0) (by simp) _, h.f.kept (k (fun e => ha.pf e.symm))⟩
theorem FBox.setO {Bs : Nat} (h : FBox W bm bt bo bp bf most tab out par) (ha : FApart bm bt bo bp bf Bs) (out' : List Nat) : FBox (W.setCell ⟨bo, 0, none⟩ (.string (encS out'))) bm bt bo bp bf most tab out' par :=
  have k : ∀ {j}, j ≠ bo → (W.setCell ⟨bo, 0, none⟩ (.string (encS out'))).heap[j]? = W.heap[j]? := fun e => Below.heap_setCell _ _ _ _ e
  ⟨h.m.kept (k (fun e => ha.om e.symm)), h.t.kept (k (fun e => ha.ot e.symm)), h.o.set (j := 0) (by simp) _, h.p.kept (k ha.po), h.f.kept (k (fun e => ha.of e.symm))⟩
/-- Behind the closure. -/
theorem FBox.flush {Bs : Nat} (h : FBox W bm bt bo bp bf most tab out par) (ha : FApart bm bt bo bp bf Bs) (hf : FlushP W bp bo most tab par out W') : FBox W' bm bt bo bp bf most tab (out ++ flC widN most tab par) [] :=
  have k : ∀ {j}, j < W.heap.size → j ≠ bp → j ≠ bo → W'.heap[j]? = W.heap[j]? := fun hl e1 e2 => hf.1.block _ hl (fun e => e.elim e1 e2)
  ⟨h.m.kept (k h.m.lt (fun e => ha.pm e.symm) (fun e => ha.om e.symm)), h.t.kept (k h.t.lt (fun e => ha.pt e.symm) (fun e => ha.ot e.symm)), hf.2.2, hf.2.1, h.f.kept (k h.f.lt (fun e => ha.pf e.symm) (fun e => ha.of e.symm))⟩
theorem flush_keeps {Bs : Nat} (h : FBox W bm bt bo bp bf most tab out par) (ha : FApart bm bt bo bp bf Bs) (hs : Bs < W.heap.size) (hf : FlushP W bp bo most tab par out W') : KeepsOthers W W' ∧ KpBox Bs W W' :=
  ⟨keepsO_only hf.1 (fun k hk => by rcases hk with rfl | rfl; exact ⟨_, _, h.p⟩; exact ⟨_, _, h.o⟩), hf.1.block _ hs (fun e => e.elim (fun q => ha.sp q.symm) (fun q => ha.so q.symm)), hf.1.size⟩
theorem below_keeps {Bs : Nat} (hs : Bs < W.heap.size) (hb : Below W.heap.size W W') : KeepsOthers W W' ∧ KpBox Bs W W' := ⟨keepsO_below hb, hb.block _ hs, hb.size⟩
theorem set_keeps {Bs b : Nat} (hs : b ≠ Bs) (v : Value) : KeepsOthers W (W.setCell ⟨b, 0, none⟩ v) ∧ KpBox Bs W (W.setCell ⟨b, 0, none⟩ v) := ⟨KeepsOthers.setCell _ _ _, Below.heap_setCell _ _ _ _ (fun e => hs e.symm), by simp⟩
theorem keeps_trans {Bs : Nat} {W'' : World} (h : KeepsOthers W W' ∧ KpBox Bs W W') (k : KeepsOthers W' W'' ∧ KpBox Bs W' W'') : KeepsOthers W W'' ∧ KpBox Bs W W'' := ⟨h.1.trans k.1, h.2.trans k.2⟩
end
/-- What holds behind the rows pre. -/
def FAt (cs : List Nat) (most tab : Nat) (pre : List (List Nat)) (out par : List Nat) : Prop :=
  (∀ rest, rowsC cs = pre ++ rest → out ++ procC widN most tab rest par = fillT widN most tab cs) ∧ ∃ hd, hd ++ par = pre.flatten
theorem FAt.nil (cs : List Nat) (most tab : Nat) : FAt cs most tab [] [] [] := ⟨fun rest h => by rw [List.nil_append] at h; rw [← h]; rfl, [], rfl⟩
theorem FAt.word {cs : List Nat} {most tab : Nat} {pre : List (List Nat)} {out par x : List Nat} (h : FAt cs most tab pre out par) (hw : wordsC x ≠ []) : FAt cs most tab (pre ++ [x]) out (par ++ x) := by
  obtain ⟨h1, hd, h2⟩ := h
  refine ⟨fun rest e => ?_, hd, by rw [← List.append_assoc, h2]; simp⟩
  have := h1 (x :: rest) (by rw [e]; simp)
  rw [procC, if_neg hw] at this
  exact this
theorem FAt.blank {cs : List Nat} {most tab : Nat} {pre : List (List Nat)} {out par x : List Nat} (h : FAt cs most tab pre out par) (hw : wordsC x = []) : FAt cs most tab (pre ++ [x]) (out ++ flC widN most tab par ++ x) [] := by
  obtain ⟨h1, hd, h2⟩ := h
  refine ⟨fun rest e => ?_, (pre ++ [x]).flatten, by simp⟩
  have := h1 (x :: rest) (by rw [e]; simp)
  rw [procC, if_pos hw] at this
  rw [← this]; simp
/-- What is known of the strings. -/
theorem FAt.facts {cs : List Nat} {most tab : Nat} {pre : List (List Nat)} {out par : List Nat} (h : FAt cs most tab pre out par) (hp : ∃ rest, rowsC cs = pre ++ rest) (hN : ∀ c ∈ cs, isN c) (hsz : (encL cs).length ≤ 16000) :
    (∀ c ∈ par, isN c) ∧ (encS par).size ≤ 16000 ∧ (encS out).size ≤ 64030000 ∧ ∀ c ∈ out, isN c := by
  obtain ⟨rest, hr⟩ := hp
  obtain ⟨h1, hd, h2⟩ := h
  have hcs : cs = hd ++ par ++ rest.flatten := by rw [h2, ← List.flatten_append, ← hr, rowsC_flat]
  have e := h1 rest hr
  have hs := fillT_size widN most tab cs hN
  have hm := capN_mono hsz
  have e3 : capN 16000 = 256112000 := rfl
  rw [e3] at hm
  refine ⟨fun c hc => hN c (by rw [hcs]; simp [hc]), ?_, ?_, fun c hc => fillT_isN widN most tab hN c (by rw [← e]; simp [hc])⟩
  · rw [encS_len]
    rw [hcs, encL_append, encL_append, List.length_append, List.length_append] at hsz
    omega
  · rw [encS_len]
    rw [← e, encL_append, List.length_append] at hs
    omega
end Go.Proofs.YtcfdalmllegefaaGreatDoor
/- package column: FillText, the walk. -/
namespace Go.Proofs.YtcfdalmllegefaaGreatDoor
open Go.RowKit Go.Shelf Go.Lib
set_option linter.unusedVariables false
set_option linter.unusedSimpArgs false
section
attribute [local go_sem] Oper.semAt_some
variable {w w' : World} {N : Nat}
set_option maxRecDepth 100000 in
set_option maxHeartbeats 8000000 in
theorem fillText_ok (hT : Tabs N w) {s : ByteArray} {cs : List Nat} (h : charsD s.data.toList = some cs) (hs : s.size ≤ 16000) (most tab : Nat) (m1 : 1 ≤ most) (m2 : most ≤ 1000) (t1 : 1 ≤ tab) (t2 : tab ≤ 64) (hlen : (fillT widN most tab cs).length ≤ 65536) :
    Calls Tryz.prog 8 #[.string s, .int .i64 most, .int .i64 tab] w fun e w' => e = .returned (.tuple #[.string (encS (fillT widN most tab cs)), .int .i64 0]) ∧ Below w.heap.size w w' := by
  have ec := enc_chars _ _ _ (Nat.le_refl _) h
  have hv : vld s = true := by rw [vld_chars, h]; rfl
  have HV := fun w' (hT : Tabs N w') => Lib.hid (hv ▸ valid_any s w' (by omega) hT : Calls Tryz.prog 46 #[.string s] w' fun e w'' => e = .returned (.bool true) ∧ Below w'.heap.size w' w'')
  have HTB := fun w' => Lib.hid (tabbed_ok tab t1 t2 w')
  have HR := fun w' => Lib.hid (crows_ok s w')
  have HTT := Lib.hid hT
  have HEC := Lib.hid ec
  have HC := Lib.hid h
  have HS := Lib.hid hs
  have HLEN := Lib.hid hlen
  have HTAB := Lib.hid (⟨t1, t2⟩ : _ ∧ _)
  have HM := Lib.hid (⟨m1, m2⟩ : _ ∧ _)
  have d1 : decide ((most : Int) < 1) = false := decide_eq_false (by omega)
  have d2 : decide ((1000 : Int) < (most : Int)) = false := decide_eq_false (by omega)
  have d3 : (most < 1) = False := eq_false (by omega)
  have d4 : (1000 < most) = False := eq_false (by omega)
  clear hT ec h hs hlen hv m1 m2 t1 t2
  refine (callsIn_wide (n := 6)).1 ?_
  refine callsIn_of_wp_marks Tryz.func8 rfl trivial ?_ rfl
  simp only [Tryz.ntmps8, List.size_toArray, List.length_cons, List.length_nil, Nat.reduceAdd, Nat.reduceSub, Array.replicate_succ, Array.replicate_zero, List.push_toArray, List.append_toArray, List.nil_append, List.cons_append]
  gi_wp2_with fail
  have q0 := Blk.made w 3 #[.int .i64 most]
  have q1 := Blk.made (w.alloc (.cells #[.int .i64 most] 3)) 3 #[.int .i64 tab]
  rw [World.size_alloc] at q1
  have q2 := q0.up (below1 _ (.cells #[.int .i64 tab] 3))
  have qb : Below w.heap.size w ((w.alloc (.cells #[.int .i64 most] 3)).alloc (.cells #[.int .i64 tab] 3)) := up2 (below1 _ _) (below1 _ _)
  have qz : ((w.alloc (.cells #[.int .i64 most] 3)).alloc (.cells #[.int .i64 tab] 3)).heap.size = w.heap.size + 2 := by simp
  clear q0
  generalize (w.alloc (.cells #[.int .i64 most] 3)).alloc (.cells #[.int .i64 tab] 3) = W0 at *
  refine ⟨trivial, (callsIn_wide.2 (HV W0 (HTT.out.up qb)).out).mono ?_⟩
  rintro e w1 ⟨rfl, hb1⟩
  have M1 := q2.up hb1
  have T1 := q1.up hb1
  have B1 := Lib.hid (up2 qb hb1)
  have Z1 := Lib.hid (show w.heap.size + 2 ≤ w1.heap.size by have := hb1.size; omega)
  clear q1 q2 qb qz hb1
  have cm := M1.cell (j := 0) rfl
  have ct := T1.cell (j := 0) rfl
  have HM1 := Lib.hid M1
  have HT1 := Lib.hid T1
  clear M1 T1
  gi_wp2_with fail
  refine ⟨trivial, (callsIn_wide.2 (HTB w1).out).mono ?_⟩
  rintro e w2 ⟨rfl, rfl⟩
  gi_wp2_with fail
  clear cm ct
  have p0 := Blk.made w1 9 #[.string ⟨#[]⟩]
  have p1 := Blk.made (w1.alloc (.cells #[.string ⟨#[]⟩] 9)) 9 #[.string ⟨#[]⟩]
  have p2 := Blk.made ((w1.alloc (.cells #[.string ⟨#[]⟩] 9)).alloc (.cells #[.string ⟨#[]⟩] 9)) 1 #[.func (.func 48) #[] #[pAt (w1.heap.size + 1), pAt w1.heap.size, pAt w.heap.size, pAt (w.heap.size + 1)]]
  simp only [World.size_alloc] at p1 p2
  have pb : Below w1.heap.size w1 (((w1.alloc (.cells #[.string ⟨#[]⟩] 9)).alloc (.cells #[.string ⟨#[]⟩] 9)).alloc (.cells #[.func (.func 48) #[] #[pAt (w1.heap.size + 1), pAt w1.heap.size, pAt w.heap.size, pAt (w.heap.size + 1)]] 1)) := up2 (up2 (below1 _ _) (below1 _ _)) (below1 _ _)
  have pz : (((w1.alloc (.cells #[.string ⟨#[]⟩] 9)).alloc (.cells #[.string ⟨#[]⟩] 9)).alloc (.cells #[.func (.func 48) #[] #[pAt (w1.heap.size + 1), pAt w1.heap.size, pAt w.heap.size, pAt (w.heap.size + 1)]] 1)).heap.size = w1.heap.size + 3 := by simp
  have fb : FBox (((w1.alloc (.cells #[.string ⟨#[]⟩] 9)).alloc (.cells #[.string ⟨#[]⟩] 9)).alloc (.cells #[.func (.func 48) #[] #[pAt (w1.heap.size + 1), pAt w1.heap.size, pAt w.heap.size, pAt (w.heap.size + 1)]] 1)) w.heap.size (w.heap.size + 1) w1.heap.size (w1.heap.size + 1) (w1.heap.size + 1 + 1) most tab [] [] :=
    ⟨HM1.out.up pb, HT1.out.up pb, p0.up (up2 (below1 _ _) (below1 _ _)), p1.up (below1 _ _), p2⟩
  clear p0 p1 p2
  generalize ((w1.alloc (.cells #[.string ⟨#[]⟩] 9)).alloc (.cells #[.string ⟨#[]⟩] 9)).alloc (.cells #[.func (.func 48) #[] #[pAt (w1.heap.size + 1), pAt w1.heap.size, pAt w.heap.size, pAt (w.heap.size + 1)]] 1) = X at *
  have BX := Lib.hid (up2 B1.out pb)
  clear pb HM1 HT1
  refine ⟨trivial, (callsIn_wide.2 (HR X).out).mono ?_⟩
  rintro e w3 ⟨rfl, hw3⟩
  have hbs := Blk.made X 9 #[.string s]
  have hbx := below1 X (.cells #[.string s] 9)
  have hzx : (X.alloc (.cells #[.string s] 9)).heap.size = X.heap.size + 1 := by simp
  rw [← hw3] at hbs hbx hzx
  clear hw3
  have fb3 := fb.up hbx
  have FB3 := Lib.hid fb3
  have B3 := Lib.hid (up2 BX.out hbx)
  have HBS := Lib.hid hbs
  have AP : FApart w.heap.size (w.heap.size + 1) w1.heap.size (w1.heap.size + 1) (w1.heap.size + 1 + 1) X.heap.size := by
    have := Z1.out
    constructor <;> omega
  have HAP := Lib.hid AP
  have HX := Lib.hid (show X.heap.size = w1.heap.size + 3 from pz)
  have HZ := Lib.hid hzx
  clear fb fb3 hbx hbs AP pz hzx
  gi_wp2_with fail
  generalize X.heap.size = Bs at *
  refine wpIn_range_box rfl (by omega) (gf := 120) (lb := #[.pointer (some ⟨Bs, 0, none⟩)]) rfl trivial (enters_of Tryz.func120 (by kernel_rfl) rfl) (by have := HZ.out; omega)
    (rows1_box 5 HC.out (by have := HS.out; omega) Bs w3 HBS.out) (fun _ => rfl)
    (fun pre W => (∃ out par, FBox W w.heap.size (w.heap.size + 1) w1.heap.size (w1.heap.size + 1) (w1.heap.size + 1 + 1) most tab out par ∧ FAt cs most tab pre out par) ∧ Below w.heap.size w W ∧ Bs < W.heap.size)
    (fun pre W W' row hs hg hr => by
      obtain ⟨⟨out, par, h1, h2⟩, h3, h4⟩ := hs
      exact ⟨⟨out, par, h1.grown hg (fun r e => (hr r e).2), h2⟩, h3.grown hg h3.size (fun k e => by have := (hr k e).1; have := B3.out.size; omega), Nat.lt_of_lt_of_le h4 hg.size⟩)
    (fun pre W v hs => by
      obtain ⟨⟨out, par, h1, h2⟩, h3, h4⟩ := hs
      exact ⟨⟨out, par, h1.box HAP.out v, h2⟩, h3.setCell (p := ⟨Bs, 0, none⟩) (by have := HX.out; have := Z1.out; show w.heap.size ≤ Bs; omega) v, by simpa using h4⟩)
    ⟨⟨[], [], FB3.out, FAt.nil _ _ _⟩, B3.out, by have := HZ.out; omega⟩ ?fr ?assign ?body ?done
  case assign =>
    intro l x W K hK
    gi_wp2
    exact hK
  case body =>
    rintro l pre x W ⟨⟨out, par, hfb, hfa⟩, hbel, hbs⟩ hpre
    obtain ⟨suf, hsuf⟩ := hpre
    have hxin : x ∈ rowsC cs := by rw [← hsuf]; simp
    have hxN : ∀ c ∈ x, isN c := fun c hc => HEC.out.2 c (rows_in hxin c hc)
    have hch : charsD (encS x).data.toList = some x := by rw [encS_list]; exact chars_enc _ hxN
    have hfx := hfa.facts ⟨x :: suf, by rw [← hsuf]; simp⟩ HEC.out.2 (by rw [HEC.out.1, size_len]; exact HS.out)
    have hxs : (encS x).size ≤ 16000 := by
      have h1 : x.flatMap (fun c : Nat => (Utf8.encode (c : Int)).data.toList) = encL x := rfl
      have h2 : cs = pre.flatten ++ (x ++ suf.flatten) := by
        have := rowsC_flat cs
        rw [← hsuf] at this
        rw [← this]; simp
      have h3 : (encL cs).length = s.size := by rw [HEC.out.1, size_len]
      rw [h2, encL_append, encL_append, List.length_append, List.length_append] at h3
      rw [encS_len]
      have := HS.out
      omega
    have HPT := fun w' => Lib.hid (parts_ok hch (by omega) w')
    have HFB := Lib.hid hfb
    have HFA := Lib.hid hfa
    have HBEL := Lib.hid hbel
    have HBS2 := Lib.hid hbs
    have HFX := Lib.hid hfx
    have HXS := Lib.hid hxs
    have HXN := Lib.hid hxN
    have HSUF := Lib.hid hsuf
    clear hfb hfa hbel hbs hfx hxs hxN hsuf hxin hch
    gi_wp2_with fail
    refine ⟨trivial, (CallsIn.inRound l (callsIn_wide.2 (HPT W).out)).mono ?_⟩
    rintro e w4 ⟨A, rfl, hown, hb4⟩
    have FB4 := Lib.hid (HFB.out.up hb4)
    have BEL4 := Lib.hid (HBEL.out.trans (hb4.mono HBEL.out.size))
    have KP4 := Lib.hid (below_keeps HBS2.out hb4)
    have BS4 := Lib.hid (Nat.lt_of_lt_of_le HBS2.out hb4.size)
    have hsum : (9223372036854775807 < (encS par).size + (encS x).size) = False := eq_false (by have := HFX.out.2.1; have := HXS.out; omega)
    have cp := FB4.out.p.cell (j := 0) rfl
    have fp := FB4.out.p.fz 0
    have cf := FB4.out.f.cell (j := 0) rfl
    have hw0 : (wordsC x).length = 0 ↔ wordsC x = [] := List.length_eq_zero_iff
    have HW0 := Lib.hid hw0
    clear hown hb4 hw0
    generalize hnw : (wordsC x).length = nw at *
    clear hnw
    by_cases hw : nw = 0
    · have d5 : decide ((0 : Int) < (nw : Int)) = false := decide_eq_false (by omega)
      have HWX := Lib.hid (HW0.out.1 hw)
      subst hw
      gi_wp2_with fail
      refine ⟨trivial, (CallsIn.inRound l (callsIn_wide.2 (flush_ok HAP.out.po FB4.out.p FB4.out.o FB4.out.m FB4.out.t HFX.out.1 HFX.out.2.1 (by have := HFX.out.2.2.1; omega) HM.out.2 HTAB.out.1 HTAB.out.2))).mono ?_⟩
      rintro e w5 ⟨rfl, hfl⟩
      have FB5 := Lib.hid (FB4.out.flush HAP.out hfl)
      have KP5 := Lib.hid (keeps_trans KP4.out (flush_keeps FB4.out HAP.out BS4.out hfl))
      have BEL5 := Lib.hid (BEL4.out.trans (hfl.1.below BEL4.out.size (fun k hk => by have := Z1.out; rcases hk with rfl | rfl <;> omega)))
      have BS5 := Lib.hid (Nat.lt_of_lt_of_le BS4.out hfl.1.size)
      have hfx2 := (HFA.out.blank HWX.out).facts ⟨suf, by rw [← HSUF.out]⟩ HEC.out.2 (by rw [HEC.out.1, size_len]; exact HS.out)
      have hos2 := hfx2.2.2.1
      rw [← encS_append, ByteArray.size_append] at hos2
      have hsum2 : (9223372036854775807 < (encS (out ++ flC widN most tab par)).size + (encS x).size) = False := eq_false (by omega)
      have co := FB5.out.o.cell (j := 0) rfl
      have fo := FB5.out.o.fz 0
      clear cp fp cf hfl hsum hfx2 hos2
      gi_wp2_with fail
      have FB6 := FB5.out.setO HAP.out (out ++ flC widN most tab par ++ x)
      rw [← encS_append (out ++ flC widN most tab par) x] at FB6
      have KP6 := keeps_trans KP5.out (set_keeps (W := w5) HAP.out.so (.string (encS (out ++ flC widN most tab par) ++ encS x)))
      exact ⟨KP6.1, KP6.2, ⟨_, _, FB6, HFA.out.blank HWX.out⟩, BEL5.out.setCell (p := ⟨w1.heap.size, 0, none⟩) (by have := Z1.out; show w.heap.size ≤ w1.heap.size; omega) _, by have := BS5.out; simpa using this⟩
    · have d5 : decide ((0 : Int) < (nw : Int)) = true := decide_eq_true (by omega)
      have d6 : (0 < nw) = True := eq_true (by omega)
      have HWX := Lib.hid (show wordsC x ≠ [] from fun e => hw (HW0.out.2 e))
      clear hw
      gi_wp2_with fail
      have FB6 := FB4.out.setP HAP.out (par ++ x)
      rw [← encS_append par x] at FB6
      have KP6 := keeps_trans KP4.out (set_keeps (W := w4) HAP.out.sp (.string (encS par ++ encS x)))
      exact ⟨KP6.1, KP6.2, ⟨_, _, FB6, HFA.out.word HWX.out⟩, BEL4.out.setCell (p := ⟨w1.heap.size + 1, 0, none⟩) (by have := Z1.out; show w.heap.size ≤ w1.heap.size + 1; omega) _, by have := BS4.out; simpa using this⟩
  case done =>
    rintro D W hD ⟨⟨out, par, hfb, hfa⟩, hbel, hbs⟩ hK
    have hfx := hfa.facts ⟨[], by simp⟩ HEC.out.2 (by rw [HEC.out.1, size_len]; exact HS.out)
    have hall := hfa.1 [] (by simp)
    rw [procC] at hall
    have FB0 := Lib.hid hfb
    have HK := Lib.hid hK
    have BEL0 := Lib.hid hbel
    have BS0 := Lib.hid hbs
    have HFX := Lib.hid hfx
    have HALL := Lib.hid hall
    have HDD := Lib.hid hD
    have cf := hfb.f.cell (j := 0) rfl
    clear hfb hfa hbel hbs hfx hall hK hD
    gi_wp2_with fail
    refine ⟨trivial, (callsIn_wide.2 (flush_ok HAP.out.po FB0.out.p FB0.out.o FB0.out.m FB0.out.t HFX.out.1 HFX.out.2.1 (by have := HFX.out.2.2.1; omega) HM.out.2 HTAB.out.1 HTAB.out.2)).mono ?_⟩
    rintro e w5 ⟨rfl, hfl⟩
    have fb5 := FB0.out.flush HAP.out hfl
    rw [HALL.out] at fb5
    have FB5 := Lib.hid fb5
    have KP5 := Lib.hid (flush_keeps FB0.out HAP.out BS0.out hfl)
    have BEL5 := Lib.hid (BEL0.out.trans (hfl.1.below BEL0.out.size (fun k hk => by have := Z1.out; rcases hk with rfl | rfl <;> omega)))
    have hN2 := fillT_isN widN most tab HEC.out.2
    have hsz2 : (encS (fillT widN most tab cs)).size ≤ 1000000000 := by
      have := encS_le (fillT widN most tab cs)
      have := HLEN.out
      omega
    have hch2 := chrs_encS hN2
    have hL := fun w' (hT : Tabs N w') => runesLen (encS (fillT widN most tab cs)) w' hsz2 hT
    rw [rlenG_chars hch2.2, hch2.1] at hL
    have HL := fun w' hT => Lib.hid (hL w' hT)
    have d5 : decide ((65536 : Int) < ((fillT widN most tab cs).length : Int)) = false := decide_eq_false (by have := HLEN.out; omega)
    have d6 : (65536 < (fillT widN most tab cs).length) = False := eq_false (by have := HLEN.out; omega)
    have co := fb5.o.cell (j := 0) rfl
    clear hfl fb5 cf hN2 hsz2 hch2 hL
    gi_wp2_with fail
    refine ⟨trivial, (callsIn_wide.2 (HL w5 (HTT.out.up BEL5.out)).out).mono ?_⟩
    rintro e w6 ⟨rfl, hb6⟩
    have fb6 := FB5.out.up hb6
    have co6 := fb6.o.cell (j := 0) rfl
    have BEL6 := Lib.hid (BEL5.out.trans (hb6.mono BEL5.out.size))
    have KP6 := Lib.hid (KP5.out.1.trans (keepsO_below hb6))
    clear co fb6 hb6
    gi_wp2_with fail
    have hK6 := KP6.out.same D _ HK.out rfl
    refine ⟨by simp, .inl ⟨_, _, rfl, run_takeDeferred hK6, ?_⟩⟩
    refine ⟨.tuple #[.string (encS (fillT widN most tab cs)), .int .i64 0], ?_, rfl, BEL6.out.trans (belowK_b (w := w) (Nat.le_refl _) w6 D _ _ (by have h1 := HDD.out; have h2 := B3.out.size; omega) hK6 rfl rfl)⟩
    simp [results, Tryz.f8, go_sem]
end
end Go.Proofs.YtcfdalmllegefaaGreatDoor
/- copyistkit.Pick. -/
namespace Go.Proofs.YtcfdalmllegefaaGreatDoor
open Go.RowKit
set_option linter.unusedVariables false
set_option linter.unusedSimpArgs false
/-- What copyistkit.Pick hands back. -/
def pickI (n most : Int) : Int := if most ≤ 0 then 0 else n % most
theorem pick_pos (n most : Int) (h : 0 < most) : 0 ≤ pickI n most ∧ pickI n most < most := by
  unfold pickI; rw [if_neg (by omega)]; exact ⟨Int.emod_nonneg _ (by omega), Int.emod_lt_of_pos _ h⟩

set_option maxHeartbeats 400000 in
theorem pick_any (n most : Int) (w : World) (h1 : 0 < most) (h2 : most ≤ 1000000) :
    Calls Tryz.prog 78 #[.int .i64 n, .int .i64 most] w fun e w' => e = .returned (.int .i64 (pickI n most)) ∧ w = w' := by
  have e1 : pickI n most = if n.tmod most < 0 then n.tmod most + most else n.tmod most := by
    unfold pickI
    rw [if_neg (by omega), Int.emod_eq_tmod]
    have hn : (most.natAbs : Int) = most := by omega
    by_cases h0 : 0 ≤ n
    · have := Int.tmod_nonneg most h0
      rw [if_pos (.inl h0), if_neg (by omega)]; omega
    · have hle : n.tmod most ≤ 0 := by
        have := Int.tmod_nonneg most (a := -n) (by omega)
        rw [Int.neg_tmod] at this; omega
      by_cases hd : most ∣ n
      · have := Int.tmod_eq_zero_of_dvd hd
        rw [if_pos (.inr hd), this]; simp
      · have hne : n.tmod most ≠ 0 := fun h => hd (Int.dvd_of_tmod_eq_zero h)
        rw [if_neg (by simp [hd]; omega), if_pos (by omega), hn]
  have b1 : -most < n.tmod most := by have := Int.lt_tmod_of_pos n h1; omega
  have b2 : n.tmod most < most := Int.tmod_lt_of_pos n h1
  have H1 := Lib.hid e1
  clear e1
  have hz : ¬ most = 0 := by omega
  by_cases hneg : n.tmod most < 0
  all_goals
    go_enter Tryz.func78, Tryz.ntmps78
    go_wp2
    go_ret
    exact ⟨ret_int (by rw [H1.out]; first | rw [if_pos (by omega)] | rw [if_neg (by omega)]), rfl⟩
end Go.Proofs.YtcfdalmllegefaaGreatDoor
/- copyistlaw24: light; of, at a plain buffer. -/
namespace Go.Proofs.YtcfdalmllegefaaGreatDoor
open Go.RowKit Go.Lib
set_option linter.unusedVariables false
set_option linter.unusedSimpArgs false
abbrev freshT (t m p o l : Nat) (lock : Int) : Tx := ⟨freshS t m p o l lock, [], [], [], -1⟩
/-- A buffer that holds a string, its group closed. -/
def withT (t m p o l : Nat) (lock : Int) (s : List Nat) : Tx := shutT (insT (freshT t m p o l lock) s false)
/-- What of hands over. -/
structure OfT (T : Tx) (cs : List Nat) : Prop where
  cs : T.cs = cs
  wide : Wide T
  empty : T.S.empty = true
  o : T.O = []
  g : ∀ g ∈ T.G, g.length ≤ 3
  ch : T.ch = -1
theorem shutT_wide {T : Tx} (h : Wide T) : Wide (shutT T) := ⟨h.lo, h.hi, h.ro⟩
theorem withT_of (t m p o l : Nat) (lock : Int) (s : List Nat) : OfT (withT t m p o l lock s) s := by
  have hw : Wide (freshT t m p o l lock) := ⟨rfl, rfl, rfl⟩
  have h1 : (freshT t m p o l lock).S.pt = 1 := rfl
  refine ⟨?_, shutT_wide (hw.ins (by rw [h1]; omega) (by rw [h1]; show 1 ≤ 0 + 1; omega)), rfl, rfl, ?_, ?_⟩
  · show (insT (freshT t m p o l lock) s false).cs = s
    show (putT (freshT t m p o l lock) 1 s false).cs = s
    rw [putT_cs]; unfold insC; simp
  · intro g hg
    by_cases h0 : s.length = 0
    · have e : (withT t m p o l lock s).G = [] := by
        show logShut (putT (freshT t m p o l lock) 1 s false).G (putT (freshT t m p o l lock) 1 s false).O = []
        unfold putT; rw [if_pos h0]; rfl
      rw [e] at hg; simp at hg
    · have e : (withT t m p o l lock s).G = [notePre (freshS t m p o l lock) ++ [insChg 1 s.length]] := by
        show logShut (putT (freshT t m p o l lock) 1 s false).G (putT (freshT t m p o l lock) 1 s false).O = _
        unfold putT; rw [if_neg h0]
        show logShut [] (noteO (freshS t m p o l lock) [] (insChg 1 s.length)) = _
        rw [noteO_first rfl]
        unfold logShut; rw [if_neg (by simp)]; rfl
      rw [e, List.mem_singleton] at hg
      subst hg
      have := (npre_ok (freshS t m p o l lock) []).2.2.2
      simp; omega
  · show (putT (freshT t m p o l lock) 1 s false).ch = -1
    unfold putT; split <;> rfl
section
variable {w w' : World} {N : Nat}
theorem fitsE_fresh {s : ByteArray} (hs : s.size ≤ 10000) (hv : (charsD s.data.toList).isSome = true) : fitsE s 0 0 = 0 := by
  have := chrs_len s
  unfold fitsE
  rw [vld_chars, if_pos hv, rlenG_chars hv, if_neg (by simp; omega)]
set_option maxHeartbeats 2000000 in
theorem ofX_ok (hT : Tabs N w) (hR : Rules N w) (hN : N ≤ w.heap.size) (s : ByteArray) (hs : s.size ≤ 10000) (hv : (charsD s.data.toList).isSome = true) :
    Calls Tryz.prog 5 #[.string s] w fun r w' => ∃ b T, r = .returned (.tuple #[pAt b, .bool true]) ∧ Below w.heap.size w w' ∧
      PB N w' b (fun k => w.heap.size ≤ k ∧ k < w'.heap.size) T 5 ∧ OfT T (chrs s) := by
  have HT := Lib.hid hT
  have HR := Lib.hid hR
  clear hT hR
  go_enter Tryz.func5, Tryz.ntmps5
  go_wp2_with fail
  refine (bufNewX HT.out hN 1 2 3).mono ?_
  rintro e w1 ⟨b, t, l, m, p, o, rfl, hb1, hp1⟩
  have B1 := Lib.hid hb1
  have P1 := Lib.hid hp1
  have z1 := hb1.size
  have HI := Lib.hid (bInsert (HT.out.up hb1) (HR.out.up hb1) hp1 (by omega) rfl s (by omega))
  clear hb1 hp1
  have hf := fitsE_fresh hs hv
  have HI2 := HI.out
  simp only [List.length_nil, hf, if_true] at HI2
  have HV := Lib.hid hv
  have HJ := Lib.hid HI2
  clear HI HI2 hf hv
  go_wp2_with fail
  refine HJ.out.mono ?_
  rintro e w2 ⟨rfl, ho2, hp2⟩
  have P2 := Lib.hid (hp2.bound)
  have O2 := Lib.hid (ho2.below z1 (fun k hk => hk.1))
  have HBd := Lib.hid (bBoundary P2.out (by omega))
  have z2 := ho2.size
  clear hp2 ho2 HJ
  go_wp2_with fail
  refine HBd.out.mono ?_
  rintro e w3 ⟨rfl, ho3, hp3⟩
  have P3 := Lib.hid hp3.bound
  have O3 := Lib.hid (ho3.below (by omega : w.heap.size ≤ w2.heap.size) (fun k hk => hk.1.elim (fun e => e.1) (fun e => by omega)))
  clear hp3 ho3 HBd
  go_wp2_with fail
  go_ret2
  refine ⟨b, withT t m p o l 3 (chrs s), rfl, (B1.out.trans O2.out).trans O3.out, ?_, withT_of _ _ _ _ _ _ _⟩
  have hp := P3.out
  refine PB.mono (B := 0 + 4 + 1) hp (fun k hk => ⟨?_, hk.2⟩) (by decide)
  exact hk.1.elim (fun e => e.1.elim (fun q => q.1) (fun q => by omega)) (fun e => by omega)
def lightB (s : ByteArray) : Bool := decide (s.size ≤ 120) && vld s
set_option maxHeartbeats 1000000 in
theorem light_ok (s : ByteArray) (w : World) : Calls Tryz.prog 18 #[.string s] w fun r w' => r = .returned (.bool (lightB s)) ∧ Below w.heap.size w w' := by
  by_cases h : s.size ≤ 120
  · have HV := Lib.hid (rvalid_any s w (by omega))
    have e : lightB s = vld s := by unfold lightB; rw [decide_eq_true h]; rfl
    have d : decide ((s.size : Int) ≤ 120) = true := decide_eq_true (by omega)
    rw [e]
    clear e h
    go_enter Tryz.func18, Tryz.ntmps18
    go_wp2_with fail
    refine HV.out.mono ?_
    rintro e w1 ⟨rfl, hb1⟩
    have B1 := Lib.hid hb1
    clear hb1
    go_wp2_with fail
    go_ret
    exact ⟨rfl, B1.out⟩
  · have e : lightB s = false := by unfold lightB; rw [decide_eq_false h]; rfl
    have d : decide ((s.size : Int) ≤ 120) = false := decide_eq_false (by omega)
    rw [e]
    clear e h
    go_enter Tryz.func18, Tryz.ntmps18
    go_wp2_with fail
    go_ret
    exact ⟨rfl, Below.refl _ w⟩
/-- The tick. -/
theorem ptick {b : Nat} {F : Nat → Prop} {T : Tx} {B : Nat} (h : PB N w b F T B) : Calls Tryz.prog 36 #[pAt b] w fun r w' => r = .returned (.int .i64 T.S.tick) ∧ w = w' := by
  have HN := Lib.hid (bnoneB h.blk)
  have c7 : w.cell? ⟨b, 7, none⟩ = some (.int .i64 T.S.tick) := h.blk.cell (j := 7) rfl
  clear h
  go_enter Tryz.func36, Tryz.ntmps36
  go_wp2_with fail
  refine HN.out.mono ?_
  rintro e w1 ⟨rfl, rfl⟩
  go_wp2_with fail
  go_ret
  exact ⟨rfl, rfl⟩
end
/-- A buffer made since B0: its blocks lie from B0 on, and nothing below turned since w. -/
structure St (N : Nat) (w : World) (B0 b : Nat) (w' : World) (T : Tx) (B : Nat) : Prop where
  bl : Below B0 w w'
  pb : PB N w' b (fun k => B0 ≤ k) T B
  sz : B0 ≤ w'.heap.size
section
variable {w w1 w2 : World} {N B0 b B1 B2 : Nat} {T1 T2 : Tx}
theorem St.next (h : St N w B0 b w1 T1 B1) (k : Only (fun k => B0 ≤ k) w1 w2 ∧ PB N w2 b (grow (fun k => B0 ≤ k) w1.heap.size) T2 B2) : St N w B0 b w2 T2 B2 :=
  ⟨h.bl.trans (k.1.below h.sz (fun k hk => hk)), k.2.mono (fun k hk => hk.elim id (fun e => by have := h.sz; omega)) (Nat.le_refl _), by have := k.1.size; have := h.sz; omega⟩
theorem St.same (h : St N w B0 b w1 T1 B1) (k : Only (fun k => B0 ≤ k) w1 w2 ∧ PB N w2 b (fun k => B0 ≤ k) T2 B2) : St N w B0 b w2 T2 B2 :=
  ⟨h.bl.trans (k.1.below h.sz (fun k hk => hk)), k.2, by have := k.1.size; have := h.sz; omega⟩
theorem St.up (h : St N w B0 b w1 T1 B1) (k : Below w1.heap.size w1 w2) : St N w B0 b w2 T1 B1 :=
  ⟨h.bl.trans (k.mono h.sz), h.pb.up k, by have := k.size; have := h.sz; omega⟩
theorem St.tabs (h : St N w B0 b w1 T1 B1) (hN : N ≤ B0) (hw : B0 ≤ w.heap.size) (hT : Tabs N w) : Tabs N w1 := Tabs.only hT (S := fun k => B0 ≤ k) ⟨h.bl.os, h.bl.tape, h.bl.output, by have := h.bl.size; omega, fun i hi hs => h.bl.block i (by omega)⟩ (fun k hk => Nat.le_trans hN hk)
theorem St.rules (h : St N w B0 b w1 T1 B1) (hN : N ≤ B0) (hw : B0 ≤ w.heap.size) (hR : Rules N w) : Rules N w1 := Rules.only hR (Z := fun k => B0 ≤ k) ⟨h.bl.os, h.bl.tape, h.bl.output, by have := h.bl.size; omega, fun i hi hs => h.bl.block i (by omega)⟩ (fun k hk => Nat.le_trans hN hk)
end
end Go.Proofs.YtcfdalmllegefaaGreatDoor
/- package column: look at two positions; Fill. -/
namespace Go.Proofs.YtcfdalmllegefaaGreatDoor
open Go.RowKit Go.Lib
set_option linter.unusedVariables false
set_option linter.unusedSimpArgs false
/-- Behind Fill. -/
def fillX (T : Tx) (x y most tab : Nat) : Tx := if encS (subL T.cs x y) = encS (fillT widN most tab (subL T.cs x y)) then T else repT T x y (fillT widN most tab (subL T.cs x y))
theorem subL_in {cs : List Nat} {x y c : Nat} (h : c ∈ subL cs x y) : c ∈ cs := by
  unfold subL at h
  exact List.mem_of_mem_drop (List.mem_of_mem_take h)
section
variable {w w' : World} {v b pt lo hi tab : Nat} {cs : List Nat}
set_option maxHeartbeats 2000000 in
theorem look2_ok (h : BufR w b cs pt lo hi) (tab k k' g cap : Nat) (hx : w.cell? ⟨g, 0, none⟩ = some (.int .i64 k)) (hy : w.cell? ⟨g, 1, none⟩ = some (.int .i64 k')) (h2 : lo ≤ k) (h3 : k ≤ hi) (h4 : lo ≤ k') (h5 : k' ≤ hi) :
    Calls Tryz.prog 44 #[.pointer (some ⟨b, 0, none⟩), .int .i64 tab, .bool true, .slice (some ⟨g, 0, none⟩) 2 cap] w fun e w' => e = .returned (.tuple #[vwV b lo hi tab, .int .i64 0]) ∧ Below w.heap.size w w' := by
  have hl := h.len
  have HH := Lib.hid h
  have hg := lt_of_cell hx
  clear h
  go_enter Tryz.func44, Tryz.ntmps44
  go_wp2_with fail
  have HB0 := Lib.hid (below1 w (.cells #[.pointer none, .int .i64 0, .int .i64 0, .int .i64 0] 71))
  have hblk := (MapKept.heap_alloc w (.cells #[.pointer none, .int .i64 0, .int .i64 0, .int .i64 0] 71)).1
  have hx2 := (World.cell?_of_block (w := w) (a := ⟨g, 0, none⟩) (HB0.out.block g hg)).trans hx
  have hy2 := (World.cell?_of_block (w := w) (a := ⟨g, 1, none⟩) (HB0.out.block g hg)).trans hy
  have hsz : w.heap.size < (w.alloc (.cells #[.pointer none, .int .i64 0, .int .i64 0, .int .i64 0] 71)).heap.size := by simp
  generalize w.alloc (.cells #[.pointer none, .int .i64 0, .int .i64 0, .int .i64 0] 71) = W at *
  have HBf := Lib.hid hblk
  have HX := Lib.hid hx2
  have HY := Lib.hid hy2
  clear hx hy hblk hx2 hy2
  refine (bpoint (HH.out.up HB0.out)).mono ?_
  rintro e w1 ⟨rfl, rfl⟩
  have d0 : ((pt : Int) == (0 : Int)) = false := by simp; omega
  go_wp2_with fail
  refine (breach (HH.out.up HB0.out)).mono ?_
  rintro e w1 ⟨rfl, hb1⟩
  have hblk := (hb1.block _ hsz).trans HBf.out
  have hx1 := (World.cell?_of_block (w := W) (a := ⟨g, 0, none⟩) (hb1.block g (lt_of_cell HX.out))).trans HX.out
  have hy1 := (World.cell?_of_block (w := W) (a := ⟨g, 1, none⟩) (hb1.block g (lt_of_cell HX.out))).trans HY.out
  have HB1 := Lib.hid hb1
  have HK := Lib.hid hblk
  clear hb1 HBf HX HY d0 hblk
  have d1 : decide ((k : Int) < (lo : Int)) = false := decide_eq_false (by omega)
  have d2 : decide ((hi : Int) < (k : Int)) = false := decide_eq_false (by omega)
  have d3 : decide ((k' : Int) < (lo : Int)) = false := decide_eq_false (by omega)
  have d4 : decide ((hi : Int) < (k' : Int)) = false := decide_eq_false (by omega)
  go_wp2_with fail
  go_loopw [13, 32] (fun va vb wr => w1 = wr ∧ ∃ i : Nat, i ≤ 2 ∧ vb = .int .i64 i) (fun _ vb _ => 3 - (intOf vb).toNat)
  case atStart => exact ⟨rfl, 0, by omega, rfl⟩
  case round =>
    obtain ⟨rfl, i, hi1, rfl⟩ := hrel
    rcases (show i = 0 ∨ i = 1 ∨ i = 2 by omega) with rfl | rfl | rfl
    · go_wp2_with fail
      go_roundw
      case rel => exact ⟨trivial, 1, by omega, rfl⟩
      case measure => simp [intOf]
    · go_wp2_with fail
      go_roundw
      case rel => exact ⟨trivial, 2, by omega, rfl⟩
      case measure => simp [intOf]
    · have k0 : w1.cell? ⟨w.heap.size, 0, none⟩ = some (.pointer none) := by simp only [World.cell?, HK.out]; rfl
      have k1 : w1.cell? ⟨w.heap.size, 1, none⟩ = some (.int .i64 0) := by simp only [World.cell?, HK.out]; rfl
      have k2 : w1.cell? ⟨w.heap.size, 2, none⟩ = some (.int .i64 0) := by simp only [World.cell?, HK.out]; rfl
      have k3 : w1.cell? ⟨w.heap.size, 3, none⟩ = some (.int .i64 0) := by simp only [World.cell?, HK.out]; rfl
      have f0 : w1.frozen? ⟨w.heap.size, 0, none⟩ = false := by simp only [World.frozen?, HK.out]; rfl
      have f1 : w1.frozen? ⟨w.heap.size, 1, none⟩ = false := by simp only [World.frozen?, HK.out]; rfl
      have f2 : w1.frozen? ⟨w.heap.size, 2, none⟩ = false := by simp only [World.frozen?, HK.out]; rfl
      have f3 : w1.frozen? ⟨w.heap.size, 3, none⟩ = false := by simp only [World.frozen?, HK.out]; rfl
      clear hx1 hy1
      go_wp2_with fail
      refine bodyPost_ret (v := .tuple #[vwV b lo hi tab, .int .i64 0]) (by simp [results, Tryz.f44, go_sem, k0, k1, k2, k3, f0, f1, f2, f3]) rfl ⟨rfl, ?_⟩
      exact ((((up2 HB0.out HB1.out).setCell (Nat.le_refl _) _).setCell (Nat.le_refl _) _).setCell (Nat.le_refl _) _).setCell (Nat.le_refl _) _
end
section
variable {N : Nat} {w w' : World} {b : Nat} {F : Nat → Prop} {T : Tx} {B : Nat}
set_option maxRecDepth 100000 in
set_option maxHeartbeats 4000000 in
theorem Fill_ok (hT : Tabs N w) (hR : Rules N w) (h : PB N w b F T B) (hF : edF N F) (hB : B ≤ 600000) (hro : T.S.ro = false) (hlen : T.cs.length ≤ 30000) (x y most tab : Nat) (m1 : 1 ≤ most) (m2 : most ≤ 1000) (ht1 : 1 ≤ tab) (ht2 : tab ≤ 64) (h1 : T.S.lo ≤ x) (h2 : x ≤ y) (h3 : y ≤ T.S.hi) (hsz : (encS (subL T.cs x y)).size ≤ 16000) (hfl : (fillT widN most tab (subL T.cs x y)).length ≤ 30000) :
    Calls Tryz.prog 9 #[pAt b, .int .i64 x, .int .i64 y, .int .i64 most, .int .i64 tab] w fun r w' => r = .returned (.int .i64 0) ∧ Only F w w' ∧ PB N w' b (grow F w.heap.size) (fillX T x y most tab) (B + T.cs.length + 8) := by
  have hsn := h.sane
  obtain ⟨wa, hwa⟩ : ∃ wa, wa = encS (subL T.cs x y) := ⟨_, rfl⟩
  obtain ⟨s, hs⟩ : ∃ s, s = encS (fillT widN most tab (subL T.cs x y)) := ⟨_, rfl⟩
  have hN : ∀ c ∈ subL T.cs x y, isN c := fun c hc => h.cn c (subL_in hc)
  have hN2 := fillT_isN widN most tab hN
  have hcw : charsD wa.data.toList = some (subL T.cs x y) := by rw [hwa, encS_list]; exact chars_enc _ hN
  have hft := fun w' (hT : Tabs N w') => (hs ▸ fillText_ok hT hcw (by rw [hwa]; exact hsz) most tab m1 m2 ht1 ht2 (by omega) : Calls Tryz.prog 8 #[.string wa, .int .i64 most, .int .i64 tab] w' fun e w'' => e = .returned (.tuple #[.string s, .int .i64 0]) ∧ Below w'.heap.size w' w'')
  have hch := chrs_encS hN2
  rw [← hs] at hch
  have hss : s.size ≤ 200000 := by
    have := encS_le (fillT widN most tab (subL T.cs x y))
    rw [← hs] at this
    omega
  have hreach : reachB T.S (x : Int) (y : Int) = true := reach_iff.2 (by omega)
  have hrep : repE T (x : Int) (y : Int) s = 0 := by
    unfold repE
    rw [if_pos hreach]
    unfold fitsE
    rw [vld_chars, if_pos hch.2, rlenG_chars hch.2, hch.1, if_neg (by omega)]
  have htv : textV T (x : Int) (y : Int) = encS (subL T.cs x y) := by unfold textV; rw [if_pos hreach]; rfl
  have hde : delE T (x : Int) (y : Int) = 0 := by unfold delE; rw [if_pos hreach]
  obtain ⟨T2, hT2⟩ : ∃ T2, T2 = fillX T x y most tab := ⟨_, rfl⟩
  rw [← hT2]
  have H := Lib.hid h
  have HT := Lib.hid hT
  have HR := Lib.hid hR
  have HH := Lib.hid (⟨hF, hB, hro, hss, h1, h2, h3⟩ : _ ∧ _ ∧ _ ∧ _ ∧ _ ∧ _ ∧ _)
  have HV := Lib.hid (⟨hs, hwa, hT2, hch⟩ : _ ∧ _ ∧ _ ∧ _)
  have HE := Lib.hid (⟨hrep, htv, hde⟩ : _ ∧ _ ∧ _)
  have HFT := fun w' hT => Lib.hid (hft w' hT)
  have HTB := fun w' => Lib.hid (tabbed_ok tab ht1 ht2 w')
  have e1 : decide ((1 : Int) ≤ (most : Int)) = true := decide_eq_true (by omega)
  have e2 : decide ((most : Int) ≤ (1000 : Int)) = true := decide_eq_true (by omega)
  have e3 : decide ((y : Int) < (x : Int)) = false := decide_eq_false (by omega)
  have e4 : (1 ≤ most) = True := eq_true m1
  have e5 : (most ≤ 1000) = True := eq_true m2
  have e6 : (y < x) = False := eq_false (by omega)
  clear hT hR h hF hB hro hlen ht1 ht2 hsn hs hwa hss hch hcw hft hreach hrep htv hde hT2 h1 h2 h3 m1 m2 hN hN2 hsz hfl
  go_enter Tryz.func9, Tryz.ntmps9
  go_wp2_with fail
  refine (HTB w).out.mono ?_
  rintro e w1 ⟨rfl, rfl⟩
  go_wp2_with fail
  have HB0 := below1 w (.cells #[.int .i64 x, .int .i64 y] 3)
  have hcx := (MapKept.heap_alloc w (.cells #[.int .i64 x, .int .i64 y] 3)).1
  have hlk := look2_ok (H.out.up HB0).r tab x y w.heap.size 2 (by simp only [World.cell?, hcx]; rfl) (by simp only [World.cell?, hcx]; rfl) HH.out.2.2.2.2.1 (by have := HH.out; omega) (by have := HH.out; omega) HH.out.2.2.2.2.2.2
  have HLK := Lib.hid hlk
  have B2 := Lib.hid HB0
  clear hcx hlk HB0
  generalize w.alloc (.cells #[.int .i64 x, .int .i64 y] 3) = W at *
  refine HLK.out.mono ?_
  rintro e w2 ⟨rfl, hb2⟩
  have B3 := Lib.hid (up2 B2.out hb2)
  clear hb2 HLK B2
  go_wp2_with fail
  have HB4 := below1 w2 (.cells #[.pointer (some ⟨b, 0, none⟩), .int .i64 T.S.lo, .int .i64 T.S.hi, .int .i64 tab] 71)
  have B5 := Lib.hid (up2 B3.out HB4)
  clear HB4 B3
  generalize w2.alloc (.cells #[.pointer (some ⟨b, 0, none⟩), .int .i64 T.S.lo, .int .i64 T.S.hi, .int .i64 tab] 71) = W2 at *
  have hpt := pText (H.out.up B5.out) (x : Int) (y : Int)
  rw [HE.out.2.1, HE.out.2.2, ← HV.out.2.1] at hpt
  refine hpt.mono ?_
  rintro e w4 ⟨rfl, hb4⟩
  have B6 := Lib.hid (up2 B5.out hb4)
  clear hb4 hpt B5
  go_wp2_with fail
  refine (HFT w4 (HT.out.up B6.out)).out.mono ?_
  rintro e w5 ⟨rfl, hb5⟩
  have B7 := Lib.hid (up2 B6.out hb5)
  clear hb5 B6
  by_cases heq : wa = s
  · have HQ := Lib.hid heq
    subst heq
    have e0 : (wa.toList == wa.toList) = true := by simp
    go_wp2_with fail
    go_ret
    refine ⟨rfl, ?_⟩
    have e2 : T2 = T := by
      rw [HV.out.2.2.1]; unfold fillX
      rw [if_pos (by rw [← HV.out.1, ← HV.out.2.1])]
    rw [e2]
    exact H.out.stay B7.out (T.cs.length + 8)
  · have e0 := str_ne1 heq
    have e1' := str_ne1 (fun q => heq q.symm)
    have HQ := Lib.hid heq
    have hbr := bReplace (HT.out.up B7.out) (HR.out.up B7.out) (H.out.up B7.out) HH.out.1 (by have := HH.out.2.1; omega) HH.out.2.2.1 (x : Int) (y : Int) s (by have := HH.out.2.2.2.1; omega)
    rw [HE.out.1, if_pos rfl, Int.toNat_natCast, Int.toNat_natCast, HV.out.2.2.2.1] at hbr
    have HBR := Lib.hid hbr
    clear hbr heq
    go_wp2_with fail
    refine HBR.out.mono ?_
    rintro e w6 ⟨rfl, h5⟩
    have H5 := Lib.hid (PB.then (T1 := T) (B1 := B) B7.out h5)
    clear h5
    go_wp2_with fail
    go_ret
    refine ⟨rfl, ?_⟩
    have e2 : T2 = repT T x y (fillT widN most tab (subL T.cs x y)) := by
      rw [HV.out.2.2.1]; unfold fillX
      rw [if_neg (by rw [← HV.out.1, ← HV.out.2.1]; exact HQ.out)]
    rw [e2]
    exact H5.out
end
end Go.Proofs.YtcfdalmllegefaaGreatDoor
/- package syntax: chars; what happens outside of strings and comments. -/
namespace Go.Proofs.YtcfdalmllegefaaGreatDoor
open Go.RowKit
set_option linter.unusedVariables false
set_option linter.unusedSimpArgs false
abbrev stC (v : Value) (u i s : Int) (c q : Bool) : Array Value := #[v, .int .i64 u, .int .i64 i, .bool c, .int .i64 s, .bool q]
section
variable {w w' : World} {tb bs ms mo k l a : Nat} {v : Value} {u i s : Int} {c q : Bool}
set_option maxHeartbeats 1000000 in
theorem chars_ok {N : Nat} (hT : Tabs N w) (h : LspT w tb bs ms mo) (t : ByteArray) (hs : t.size ≤ 1000000) (hv : (charsD t.data.toList).isSome = true) : Calls Tryz.prog 140 #[pAt tb, .string t] w fun e w' => ∃ v, e = .returned (.tuple #[v, .int .i64 0]) ∧ ROwn encI 3 1 w.heap.size w' v ((chrs t).map Int.ofNat) ∧ Below w.heap.size w w' := by
  have HN := Lib.hid (tnone_ok h)
  have HL := Lib.hid (rlist_ok hT t hs hv)
  clear hT h hs hv
  go_enter Tryz.func140, Tryz.ntmps140
  go_wp2_with fail
  refine HN.out.mono ?_
  rintro e w1 ⟨rfl, rfl⟩
  go_wp2_with fail
  refine HL.out.mono ?_
  rintro e w1 ⟨v, rfl, h1, h2⟩
  obtain ⟨A, cp, hv', _, _, _⟩ := h1.shape eltI
  rw [List.length_map] at hv'
  subst hv'
  have H1 := Lib.hid h1
  clear h1
  go_wp2_with fail
  go_ret2
  exact ⟨_, rfl, H1.out, h2⟩
set_option maxRecDepth 100000 in
set_option maxHeartbeats 1000000 in
theorem clone0 (w : World) : Calls Tryz.prog 141 #[.slice none 0 0] w fun e w' => e = .returned (.slice none 0 0) ∧ w = w' := by
  have hn := Lib.run_eql_slice_nil (P := Tryz.prog) w 88 3 none 0 0 0 0 Tryz.underlying88
  go_enter Tryz.func141, Tryz.ntmps141
  go_wp2_with fail
  go_ret
  exact ⟨rfl, rfl⟩
set_option maxHeartbeats 1000000 in
theorem ov1 (w : World) : Calls Tryz.prog 142 #[] w fun e w' => e = .returned (.tuple #[]) ∧ w = w' := by
  go_enter Tryz.func142, Tryz.ntmps142
  go_wp2_with fail
  go_end0
  exact ⟨rfl, rfl⟩
set_option maxHeartbeats 1000000 in
theorem ov7 (w : World) : Calls Tryz.prog 148 #[] w fun e w' => e = .returned (.tuple #[]) ∧ w = w' := by
  go_enter Tryz.func148, Tryz.ntmps148
  go_wp2_with fail
  go_end0
  exact ⟨rfl, rfl⟩
set_option maxHeartbeats 1000000 in
theorem ov2 (h : Blk w k 90 (stC v u i s c q)) : Calls Tryz.prog 143 #[pAt k] w fun e w' => e = .returned (.tuple #[]) ∧ Only (fun j => j = k) w w' ∧ Blk w' k 90 (stC v u i s c true) := by
  have c5 := h.cell (j := 5) rfl
  have f5 := h.fz 5
  have H := Lib.hid h
  clear h
  go_enter Tryz.func143, Tryz.ntmps143
  go_wp2_with fail
  go_end0
  exact ⟨rfl, Only.setCell (S := fun j => j = k) (p := ⟨k, 5, none⟩) (Only.refl _ w) rfl _, H.out.set (j := 5) (by simp) (.bool true)⟩
set_option maxRecDepth 100000 in
set_option maxHeartbeats 1000000 in
theorem ov3 {A : Option Addr} {L : List Int} {cap : Nat} (h : Blk w k 90 (stC v u i s c q)) (hl : Blk w l 88 #[.slice A L.length cap]) (hL : RSl encI w A L) (n : Nat) (hn : n < L.length) (ha : Blk w a 3 #[.int .i64 n]) :
    Calls Tryz.prog 144 #[pAt l, pAt a, pAt k] w fun e w' => e = .returned (.tuple #[]) ∧ Only (fun j => j = k) w w' ∧ Blk w' k 90 (stC v u (L.getD n 0) n c q) := by
  have hx : L[n]? = some (L.getD n 0) := by rw [List.getD_eq_getElem?_getD, List.getElem?_eq_getElem hn]; rfl
  generalize L.getD n 0 = x at *
  obtain ⟨g, o, rfl, hg, hat⟩ := hL.at_ eltI hx
  have k0 := hat 0 _ rfl
  rw [Nat.mul_one, Nat.add_zero] at k0
  have hn' : (n : Int) < L.length := by omega
  have c2 := h.cell (j := 2) rfl
  have f2 := h.fz 2
  have c4 := h.cell (j := 4) rfl
  have f4 := h.fz 4
  have l0 := hl.cell (j := 0) rfl
  have a0 : w.cell? ⟨a, 0, none⟩ = some (.int .i64 (n : Int)) := ha.cell (j := 0) rfl
  have H := Lib.hid h
  clear h hl hL ha hx hat hn
  go_enter Tryz.func144, Tryz.ntmps144
  go_wp2_with fail
  go_region
  go_wp2_with fail
  go_end0
  exact ⟨rfl, (Only.setCell (S := fun j => j = k) (p := ⟨k, 4, none⟩) (Only.setCell (S := fun j => j = k) (p := ⟨k, 2, none⟩) (Only.refl _ w) rfl _) rfl _).drew, (H.out.set (j := 2) (by simp) (.int .i64 x)).set (j := 4) (by simp) (.int .i64 (n : Int))⟩
set_option maxHeartbeats 1000000 in
theorem ov4 (h : Blk w k 90 (stC v u i s c q)) (n : Nat) (ha : Blk w a 3 #[.int .i64 n]) :
    Calls Tryz.prog 145 #[pAt a, pAt k] w fun e w' => e = .returned (.tuple #[]) ∧ Only (fun j => j = k) w w' ∧ Blk w' k 90 (stC v u i n true q) := by
  have c3 := h.cell (j := 3) rfl
  have f3 := h.fz 3
  have c4 := h.cell (j := 4) rfl
  have f4 := h.fz 4
  have a0 : w.cell? ⟨a, 0, none⟩ = some (.int .i64 (n : Int)) := ha.cell (j := 0) rfl
  have H := Lib.hid h
  clear h ha
  go_enter Tryz.func145, Tryz.ntmps145
  go_wp2_with fail
  go_end0
  exact ⟨rfl, Only.setCell (S := fun j => j = k) (p := ⟨k, 4, none⟩) (Only.setCell (S := fun j => j = k) (p := ⟨k, 3, none⟩) (Only.refl _ w) rfl _) rfl _, (H.out.set (j := 3) (by simp) (.bool true)).set (j := 4) (by simp) (.int .i64 (n : Int))⟩
set_option maxRecDepth 100000 in
set_option maxHeartbeats 1000000 in
theorem ov5 {B : Nat} {L : List Int} (h : Blk w k 90 (stC v u i s c q)) (hv : ROwn encI 3 1 B w v L) (hB : B ≤ w.heap.size) (hk : k < B) (hl : L.length ≤ 1000000) (n : Nat) (ha : Blk w a 3 #[.int .i64 n]) :
    Calls Tryz.prog 146 #[pAt k, pAt a] w fun e w' => e = .returned (.tuple #[]) ∧ Only (fun j => j = k ∨ B ≤ j) w w' ∧ ∃ v', ROwn encI 3 1 B w' v' (L ++ [(n : Int)]) ∧ Blk w' k 90 (stC v' u i s c q) := by
  obtain ⟨v', w3, happ, hown3, hb3, ho3, _⟩ := append_elem eltI hv hB (n : Int) (by omega) (by omega)
  obtain ⟨A, cap, rfl, _, _, _⟩ := hv.shape eltI
  have HP := Lib.hid happ
  have h3 := h.only ho3 (fun e => by have := hv.base e; omega)
  have HO := Lib.hid (ho3.mono (T := fun j => j = k ∨ B ≤ j) (fun j hj => .inr (hv.base hj)))
  have H3 := Lib.hid h3
  have HW := Lib.hid hown3
  obtain ⟨A3, cap3, rfl, _, _, _⟩ := hown3.shape eltI
  have c0 := h.cell (j := 0) rfl
  have a0 : w.cell? ⟨a, 0, none⟩ = some (.int .i64 (n : Int)) := ha.cell (j := 0) rfl
  have k0 := h3.cell (j := 0) rfl
  have f0 := h3.fz 0
  clear h ha hv hown3 ho3 happ hb3 h3
  generalize (L ++ [(n : Int)]).length = M at *
  go_enter Tryz.func146, Tryz.ntmps146
  go_wp2_with (at_builtin; refine wpList_app_run rfl _ _ _ rfl rfl rfl HP.out ?_)
  go_end0
  exact ⟨rfl, HO.out.setCell (p := ⟨k, 0, none⟩) (.inl rfl) _, _, HW.out.kept (fun g hg => Below.heap_setCell _ _ _ _ (by have := HW.out.base hg; show g ≠ k; omega)), H3.out.set (j := 0) (by simp) (.slice A3 M cap3)⟩
/-- The last element taken off. -/
theorem ROwn.drop1 {B : Nat} {L : List Int} {A : Option Addr} {cap : Nat} (h : ROwn encI 3 1 B w (.slice A L.length cap) L) : ROwn encI 3 1 B w (.slice A (L.length - 1) cap) L.dropLast := by
  have e : L.dropLast.length = L.length - 1 := List.length_dropLast
  rcases h.2 with ⟨hn, h0⟩ | ⟨g, cap', cur, hn, hb, hg, hnc, hcm, hsz, htk⟩
  · have : L = [] := List.eq_nil_of_length_eq_zero h0
    subst this
    rw [hn] at h
    simp only [Value.slice.injEq] at hn
    obtain ⟨rfl, _, rfl⟩ := hn
    exact ROwn.nil _ _
  · simp only [Value.slice.injEq] at hn
    obtain ⟨rfl, _, rfl⟩ := hn
    refine ⟨by rw [cellsL_length (k := 1) (fun _ => rfl)], .inr ⟨g, cap, cur, by rw [e], hb, hg, by rw [e]; omega, hcm, hsz, ?_⟩⟩
    rw [e]
    have h2 := congrArg (List.take ((L.length - 1) * 1)) htk
    rw [List.take_take, Nat.min_eq_left (by omega)] at h2
    rw [h2, ← cellsL_take (enc := encI) (k := 1) (fun _ => rfl) L (L.length - 1) (by omega), List.dropLast_eq_take]
set_option maxRecDepth 100000 in
set_option maxHeartbeats 1000000 in
theorem ov6 {B : Nat} {L : List Int} (h : Blk w k 90 (stC v u i s c q)) (hv : ROwn encI 3 1 B w v L) (hk : k < B) (hl : L.length ≤ 1000000) (hu0 : 0 ≤ u) (hu : u ≤ 1000000) :
    Calls Tryz.prog 147 #[pAt k] w fun e w' => e = .returned (.tuple #[]) ∧ Only (fun j => j = k) w w' ∧ ∃ v', ROwn encI 3 1 B w' v' L.dropLast ∧ Blk w' k 90 (stC v' (if L = [] then u + 1 else u) i s c q) := by
  obtain ⟨A, cap, rfl, hc1, hc2, _⟩ := hv.shape eltI
  have c0 := h.cell (j := 0) rfl
  have f0 := h.fz 0
  have c1 := h.cell (j := 1) rfl
  have f1 := h.fz 1
  have H := Lib.hid h
  have HV := Lib.hid hv
  by_cases hE : L = []
  · rw [if_pos hE]
    have d0 : (0 < L.length) = False := by rw [hE]; simp
    have s1 : IntKind.i64.wrap (u + 1) = u + 1 := IntWalk.i64_in _ (by omega)
    clear h hv
    go_enter Tryz.func147, Tryz.ntmps147
    go_wp2_with fail
    go_end0
    exact ⟨rfl, Only.setCell (S := fun j => j = k) (p := ⟨k, 1, none⟩) (Only.refl _ w) rfl _, _, (by
      have h1 : ROwn encI 3 1 B w (.slice A L.length cap) L.dropLast := by rw [hE]; rw [hE] at HV; exact HV.out
      exact h1.kept (fun g hg => Below.heap_setCell _ _ _ _ (by have := h1.base hg; show g ≠ k; omega))), H.out.set (j := 1) (by simp) (.int .i64 (u + 1))⟩
  · rw [if_neg hE]
    have hp : 0 < L.length := List.length_pos_iff.2 hE
    have d0 : (0 < L.length) = True := eq_true hp
    obtain ⟨m, hm⟩ : ∃ m, L.length - 1 = m := ⟨_, rfl⟩
    have s1 : IntKind.i64.wrap ((L.length : Int) - 1) = (m : Int) := by rw [IntWalk.i64_in _ (by omega)]; omega
    have hmc : m ≤ cap := by omega
    have HM := Lib.hid hm
    clear h hv hm
    go_enter Tryz.func147, Tryz.ntmps147
    go_wp2_with fail
    go_end0
    have h1 := HV.out.drop1
    rw [HM.out] at h1
    exact ⟨rfl, Only.setCell (S := fun j => j = k) (p := ⟨k, 0, none⟩) (Only.refl _ w) rfl _, _, h1.kept (fun g hg => Below.heap_setCell _ _ _ _ (by have := h1.base hg; show g ≠ k; omega)), H.out.set (j := 0) (by simp) (.slice A m cap)⟩
end
end Go.Proofs.YtcfdalmllegefaaGreatDoor
