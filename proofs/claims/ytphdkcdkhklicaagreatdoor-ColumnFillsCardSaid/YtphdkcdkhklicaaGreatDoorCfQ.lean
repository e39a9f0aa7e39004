/- package column: FillText. -/
import Derived.Test.YtphdkcdkhklicaaGreatDoorCfP
import Derived.Test.YtphdkcdkhklicaaGreatDoorZ03
import Derived.Test.YtphdkcdkhklicaaGreatDoorZ06
namespace Go.Proofs.YtphdkcdkhklicaaGreatDoor
open Go.RowKit Go.Shelf Go.Lib
set_option linter.unusedVariables false
set_option linter.unusedSimpArgs false
theorem keepsO_below {w w' : World} (h : Below w.heap.size w w') : KeepsOthers w w' :=
  ⟨h.size, fun k o hk _ => (h.block k (Array.getElem?_eq_some_iff.1 hk).1).trans hk⟩
theorem keepsO_only {S : Nat → Prop} {w w' : World} (h : Only S w w') (hc : ∀ k, S k → ∃ cs T, w.heap[k]? = some (.cells cs T)) : KeepsOthers w w' :=
  ⟨h.size, fun k o hk ho => (h.block k (Array.getElem?_eq_some_iff.1 hk).1 (fun hs => by
    obtain ⟨cs, T, e⟩ := hc k hs
    rw [hk] at e; cases e; cases ho)).trans hk⟩
theorem Blk.grown {W W' : World} {b : Nat} {T : TypeId} {cs : Array Value} {row : Option Nat} (h : Blk W b T cs) (hg : W.grownBy W' row) (hr : ∀ r, row = some r → ∃ o : Obj, W.heap[r]? = some o ∧ o.isCells = false) : Blk W' b T cs :=
  h.kept (grownBy_keeps_cells hg hr h rfl)
/-- The boxes of FillText. -/
structure FBox (W : World) (bm bt bo bp bf : Nat) (most tab : Nat) (out par : List Nat) : Prop where
  m : Blk W bm 3 #[.int .i64 most]
  t : Blk W bt 3 #[.int .i64 tab]
  o : Blk W bo 9 #[.string (encS out)]
  p : Blk W bp 9 #[.string (encS par)]
  f : Blk W bf 1 #[.func (.func 65) #[] #[pAt bp, pAt bo, pAt bm, pAt bt]]
section
variable {W W' : World} {bm bt bo bp bf most tab : Nat} {out par : List Nat}
theorem FBox.kept (h : FBox W bm bt bo bp bf most tab out par) (hk : ∀ k, k = bm ∨ k = bt ∨ k = bo ∨ k = bp ∨ k = bf → W'.heap[k]? = W.heap[k]?) : FBox W' bm bt bo bp bf most tab out par :=
  ⟨h.m.kept (hk _ (.inl rfl)), h.t.kept (hk _ (.inr (.inl rfl))), h.o.kept (hk _ (.inr (.inr (.inl rfl)))), h.p.kept (hk _ (.inr (.inr (.inr (.inl rfl))))), h.f.kept (hk _ (.inr (.inr (.inr (.inr rfl)))))⟩
theorem FBox.lt (h : FBox W bm bt bo bp bf most tab out par) {k : Nat} (hk : k = bm ∨ k = bt ∨ k = bo ∨ k = bp ∨ k = bf) : k < W.heap.size := by
  rcases hk with rfl | rfl | rfl | rfl | rfl
  · exact h.m.lt
  · exact h.t.lt
  · exact h.o.lt
  · exact h.p.lt
  · exact h.f.lt
theorem FBox.up (h : FBox W bm bt bo bp bf most tab out par) (hb : Below W.heap.size W W') : FBox W' bm bt bo bp bf most tab out par := h.kept fun k hk => hb.block k (h.lt hk)
theorem FBox.grown {row : Option Nat} (h : FBox W bm bt bo bp bf most tab out par) (hg : W.grownBy W' row) (hr : ∀ r, row = some r → ∃ o : Obj, W.heap[r]? = some o ∧ o.isCells = false) : FBox W' bm bt bo bp bf most tab out par :=
  ⟨h.m.grown hg hr, h.t.grown hg hr, h.o.grown hg hr, h.p.grown hg hr, h.f.grown hg hr⟩
/-- Which boxes are apart. -/
structure FApart (bm bt bo bp bf Bs : Nat) : Prop where
  po : bp ≠ bo
  pm : bp ≠ bm
  pt : bp ≠ bt
  pf : bp ≠ bf
  om : bo ≠ bm
  ot : bo ≠ bt
  of : bo ≠ bf
  sm : bm ≠ Bs
  st : bt ≠ Bs
  so : bo ≠ Bs
  sp : bp ≠ Bs
  sf : bf ≠ Bs
theorem FBox.box {Bs : Nat} (h : FBox W bm bt bo bp bf most tab out par) (ha : FApart bm bt bo bp bf Bs) (v : Value) : FBox (W.setCell ⟨Bs, 0, none⟩ v) bm bt bo bp bf most tab out par :=
  h.kept fun k hk => Below.heap_setCell _ _ _ _ (by
    show k ≠ Bs
    rcases hk with rfl | rfl | rfl | rfl | rfl
    · exact ha.sm
    · exact ha.st
    · exact ha.so
    · exact ha.sp
    · exact ha.sf)
theorem FBox.setP {Bs : Nat} (h : FBox W bm bt bo bp bf most tab out par) (ha : FApart bm bt bo bp bf Bs) (par' : List Nat) : FBox (W.setCell ⟨bp, 0, none⟩ (.string (encS par'))) bm bt bo bp bf most tab out par' :=
  have k : ∀ {j}, j ≠ bp → (W.setCell ⟨bp, 0, none⟩ (.string (encS par'))).heap[j]? = W.heap[j]? := fun e => Below.heap_setCell _ _ _ _ e
  ⟨h.m.kept (k (fun e => ha.pm e.symm)), h.t.kept (k (fun e => ha.pt e.symm)), h.o.kept (k (fun e => ha.po e.symm)), h.p.set (j := 0) (by simp) _, h.f.kept (k (fun e => ha.pf e.symm))⟩
theorem FBox.setO {Bs : Nat} (h : FBox W bm bt bo bp bf most tab out par) (ha : FApart bm bt bo bp bf Bs) (out' : List Nat) : FBox (W.setCell ⟨bo, 0, none⟩ (.string (encS out'))) bm bt bo bp bf most tab out' par :=
  have k : ∀ {j}, j ≠ bo → (W.setCell ⟨bo, 0, none⟩ (.string (encS out'))).heap[j]? = W.heap[j]? := fun e => Below.heap_setCell _ _ _ _ e
  ⟨h.m.kept (k (fun e => ha.om e.symm)), h.t.kept (k (fun e => ha.ot e.symm)), h.o.set (j := 0) (by simp) _, h.p.kept (k ha.po), h.f.kept (k (fun e => ha.of e.symm))⟩
/-- Behind the closure. -/
theorem FBox.flush {Bs : Nat} (h : FBox W bm bt bo bp bf most tab out par) (ha : FApart bm bt bo bp bf Bs) (hf : FlushP W bp bo most tab par out W') : FBox W' bm bt bo bp bf most tab (out ++ flC widN most tab par) [] :=
  have k : ∀ {j}, j < W.heap.size → j ≠ bp → j ≠ bo → W'.heap[j]? = W.heap[j]? := fun hl e1 e2 => hf.1.block _ hl (fun e => e.elim e1 e2)
  ⟨h.m.kept (k h.m.lt (fun e => ha.pm e.symm) (fun e => ha.om e.symm)), h.t.kept (k h.t.lt (fun e => ha.pt e.symm) (fun e => ha.ot e.symm)), hf.2.2, hf.2.1, h.f.kept (k h.f.lt (fun e => ha.pf e.symm) (fun e => ha.of e.symm))⟩
theorem flush_keeps {Bs : Nat} (h : FBox W bm bt bo bp bf most tab out par) (ha : FApart bm bt bo bp bf Bs) (hs : Bs < W.heap.size) (hf : FlushP W bp bo most tab par out W') : KeepsOthers W W' ∧ KpBox Bs W W' :=
  ⟨keepsO_only hf.1 (fun k hk => by rcases hk with rfl | rfl; exact ⟨_, _, h.p⟩; exact ⟨_, _, h.o⟩), hf.1.block _ hs (fun e => e.elim (fun q => ha.sp q.symm) (fun q => ha.so q.symm)), hf.1.size⟩
theorem below_keeps {Bs : Nat} (hs : Bs < W.heap.size) (hb : Below W.heap.size W W') : KeepsOthers W W' ∧ KpBox Bs W W' := ⟨keepsO_below hb, hb.block _ hs, hb.size⟩
theorem set_keeps {Bs b : Nat} (hs : b ≠ Bs) (v : Value) : KeepsOthers W (W.setCell ⟨b, 0, none⟩ v) ∧ KpBox Bs W (W.setCell ⟨b, 0, none⟩ v) := ⟨KeepsOthers.setCell _ _ _, Below.heap_setCell _ _ _ _ (fun e => hs e.symm), by simp⟩
theorem keeps_trans {Bs : Nat} {W'' : World} (h : KeepsOthers W W' ∧ KpBox Bs W W') (k : KeepsOthers W' W'' ∧ KpBox Bs W' W'') : KeepsOthers W W'' ∧ KpBox Bs W W'' := ⟨h.1.trans k.1, h.2.trans k.2⟩
end
/-- What holds behind the rows pre. -/
def FAt (cs : List Nat) (most tab : Nat) (pre : List (List Nat)) (out par : List Nat) : Prop :=
  (∀ rest, rowsC cs = pre ++ rest → out ++ procC widN most tab rest par = fillT widN most tab cs) ∧ ∃ hd, hd ++ par = pre.flatten
theorem FAt.nil (cs : List Nat) (most tab : Nat) : FAt cs most tab [] [] [] := ⟨fun rest h => by rw [List.nil_append] at h; rw [← h]; rfl, [], rfl⟩
theorem FAt.word {cs : List Nat} {most tab : Nat} {pre : List (List Nat)} {out par x : List Nat} (h : FAt cs most tab pre out par) (hw : wordsC x ≠ []) : FAt cs most tab (pre ++ [x]) out (par ++ x) := by
  obtain ⟨h1, hd, h2⟩ := h
  refine ⟨fun rest e => ?_, hd, by rw [← List.append_assoc, h2]; simp⟩
  have := h1 (x :: rest) (by rw [e]; simp)
  rw [procC, if_neg hw] at this
  exact this
theorem FAt.blank {cs : List Nat} {most tab : Nat} {pre : List (List Nat)} {out par x : List Nat} (h : FAt cs most tab pre out par) (hw : wordsC x = []) : FAt cs most tab (pre ++ [x]) (out ++ flC widN most tab par ++ x) [] := by
  obtain ⟨h1, hd, h2⟩ := h
  refine ⟨fun rest e => ?_, (pre ++ [x]).flatten, by simp⟩
  have := h1 (x :: rest) (by rw [e]; simp)
  rw [procC, if_pos hw] at this
  rw [← this]; simp
/-- What is known of the strings. -/
theorem FAt.facts {cs : List Nat} {most tab : Nat} {pre : List (List Nat)} {out par : List Nat} (h : FAt cs most tab pre out par) (hp : ∃ rest, rowsC cs = pre ++ rest) (hN : ∀ c ∈ cs, isN c) (hsz : (encL cs).length ≤ 16000) :
    (∀ c ∈ par, isN c) ∧ (encS par).size ≤ 16000 ∧ (encS out).size ≤ 64030000 ∧ ∀ c ∈ out, isN c := by
  obtain ⟨rest, hr⟩ := hp
  obtain ⟨h1, hd, h2⟩ := h
  have hcs : cs = hd ++ par ++ rest.flatten := by rw [h2, ← List.flatten_append, ← hr, rowsC_flat]
  have e := h1 rest hr
  have hs := fillT_size widN most tab cs hN
  have hm := capN_mono hsz
  have e3 : capN 16000 = 256112000 := rfl
  rw [e3] at hm
  refine ⟨fun c hc => hN c (by rw [hcs]; simp [hc]), ?_, ?_, fun c hc => fillT_isN widN most tab hN c (by rw [← e]; simp [hc])⟩
  · rw [encS_len]
    rw [hcs, encL_append, encL_append, List.length_append, List.length_append] at hsz
    omega
  · rw [encS_len]
    rw [← e, encL_append, List.length_append] at hs
    omega
end Go.Proofs.YtphdkcdkhklicaaGreatDoor
