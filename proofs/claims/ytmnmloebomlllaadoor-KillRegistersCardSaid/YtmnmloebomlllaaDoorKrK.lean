/- The reference's ring: Append. -/
import Derived.Test.YtmnmloebomlllaaDoorKrJ
namespace Go.Proofs.YtmnmloebomlllaaDoor
open Go.RowKit
set_option linter.unusedVariables false
set_option linter.unusedSimpArgs false
section
variable {w w' : World} {b : Nat} {L : List ByteArray} {most at_ : Nat} {v : Value}
set_option maxHeartbeats 1000000 in
theorem RRing.app_nil (h : RRing w b v [] most at_) (s : ByteArray) (ahead : Bool) (err : Nat) (L' : List ByteArray) (HK : Hid (Calls Tryd.prog 17 #[.pointer (some ⟨b, 0, none⟩), .string s] w (RPost w b v L' most 0 err))) :
    Calls Tryd.prog 18 #[.pointer (some ⟨b, 0, none⟩), .string s, .bool ahead] w (RPost w b v L' most 0 err) := by
  obtain ⟨A, cp, rfl, hA1, hA2, hA3⟩ := h.own.shape eltS
  have c0 := h.c0
  clear h hA3
  go_enter Tryd.func18, Tryd.ntmps18
  go_wp2_with fail
  refine HK.out.mono ?_
  rintro e w' ⟨rfl, hr, ho⟩
  go_wp2_with fail
  go_ret
  exact ⟨rfl, hr, ho⟩
set_option maxHeartbeats 1000000 in
theorem RRing.app_bad (h : RRing w b v L most at_) (hn : 0 < L.length) (s : ByteArray) (ahead : Bool) (hs : s.size ≤ 1000000000) (hv : vld s = false) :
    Calls Tryd.prog 18 #[.pointer (some ⟨b, 0, none⟩), .string s, .bool ahead] w (RPost w b v L most at_ 5) := by
  have hV := rvalid_any s w hs
  rw [hv] at hV
  have HV := Lib.hid hV
  have HK : ∀ w1, Below w.heap.size w w1 → Calls Tryd.prog 17 #[.pointer (some ⟨b, 0, none⟩), .string s] w1 (RPost w1 b v L most at_ 5) := fun w1 hb => (h.up hb).kill_bad s hs hv
  have HK' := Lib.hid HK
  obtain ⟨A, cp, rfl, hA1, hA2, hA3⟩ := h.own.shape eltS
  have c0 := h.c0
  have hnz : ((L.length : Int) == 0) = false := by simp; intro e; subst e; simp at hn
  clear hV hv HK h hA3
  go_enter Tryd.func18, Tryd.ntmps18
  go_wp2_with fail
  refine HV.out.mono ?_
  rintro e w1 ⟨rfl, hb⟩
  go_wp2_with fail
  refine (HK'.out w1 hb).mono ?_
  rintro e w' ⟨rfl, v', hr, ho, hf⟩
  go_wp2_with fail
  go_ret
  refine ⟨rfl, v', hr, (Only.of_below hb).then ho (fun i hi _ => hi), hf.imp id (fun hf g hg => Nat.le_trans hb.size (hf g hg))⟩
theorem ROwn.setHead {B g c : Nat} {n : Nat} (h : ROwn encS 9 1 B w (.slice (some ⟨g, 0, none⟩) n c) L) (hn : 0 < L.length) (x : ByteArray) :
    ROwn encS 9 1 B (w.setCell ⟨g, 0, none⟩ (.string x)) (.slice (some ⟨g, 0, none⟩) n c) (x :: L.tail) := by
  have hlen : (x :: L.tail).length = L.length := by simp; omega
  rcases h.2 with ⟨e, h0⟩ | ⟨g', cap, cur, e, hb, hg, hnc, hcm, hsz, htk⟩
  · cases e
  · cases e
    refine ⟨by rw [cellsL_length eltS.len], .inr ⟨g, c, cur.setIfInBounds 0 (.string x), by rw [hlen], hb, by simp [World.setCell, Array.getElem?_modify, hg], by omega, hcm, by simpa using hsz, ?_⟩⟩
    rw [hlen, Array.toList_setIfInBounds, List.take_set, htk]
    rcases L with _ | ⟨y, L⟩
    · simp at hn
    · rfl
theorem ROwn.first {B : Nat} (h : ROwn encS 9 1 B w v L) (hn : 0 < L.length) : ∃ g c, v = .slice (some ⟨g, 0, none⟩) L.length c ∧ w.cell? ⟨g, 0, none⟩ = some (.string (L.getD 0 ByteArray.empty)) ∧ w.frozen? ⟨g, 0, none⟩ = false ∧ L.length ≤ c := by
  rcases h.2 with ⟨e, h0⟩ | ⟨g, cap, cur, rfl, hb, hg, hnc, hcm, hsz, htk⟩
  · omega
  · refine ⟨g, cap, rfl, ?_, by simp [World.frozen?, hg], hnc⟩
    rcases L with _ | ⟨y, L⟩
    · simp at hn
    · have : cur[0]? = some (.string y) := by
        rw [← Array.getElem?_toList]
        have h1 := congrArg (·[0]?) htk
        simp only [List.getElem?_take] at h1
        simpa [cellsL] using h1
      simp only [World.cell?, hg]
      simpa using this
set_option maxRecDepth 100000 in
set_option maxHeartbeats 1000000 in
theorem RRing.app_ok (h : RRing w b v L most at_) (hn : 0 < L.length) (s : ByteArray) (ahead : Bool) (hs : s.size + (L.getD 0 ByteArray.empty).size ≤ 65536) (hv : vld s = true) :
    Calls Tryd.prog 18 #[.pointer (some ⟨b, 0, none⟩), .string s, .bool ahead] w (RPost w b v (catB s (L.getD 0 ByteArray.empty) ahead :: L.tail) most 0 0) := by
  have hV := rvalid_any s w (by omega)
  rw [hv] at hV
  have HV := Lib.hid hV
  obtain ⟨g, cp, rfl, hcx, hzx, hcp⟩ := h.own.first hn
  have c0 := h.c0
  have hnz : ((L.length : Int) == 0) = false := by simp; intro e; subst e; simp at hn
  have hne := (h.ne (g := g) rfl).1
  have hgl := h.own.lt (g := g) rfl
  obtain ⟨x, hx⟩ : ∃ x, L.getD 0 ByteArray.empty = x := ⟨_, rfl⟩
  rw [hx] at hs hcx
  rw [hx]
  have H0 := Lib.hid h
  have HNE := Lib.hid hne
  have HCX := Lib.hid hcx
  have HZX := Lib.hid hzx
  clear hV hv hx hne hcx hzx
  go_enter Tryd.func18, Tryd.ntmps18
  go_wp2_with fail
  refine HV.out.mono ?_
  rintro e w1 ⟨rfl, hb⟩
  have hl0 : (0 : Int) < L.length := by omega
  clear c0
  go_wp2_with fail
  have C0 : ∀ y : UpW w1.heap.size w1, y.w.cell? ⟨b, 0, none⟩ = some (.slice (some ⟨g, 0, none⟩) L.length cp) := fun y => ((H0.out.up hb).up y.up).c0
  have DX : ∀ y : UpW w1.heap.size w1, y.w.cell? ⟨g, 0, none⟩ = some (.string x) := fun y => (y.up.cell (p := ⟨g, 0, none⟩) (Nat.lt_of_lt_of_le hgl hb.size)).trans ((hb.cell (p := ⟨g, 0, none⟩) hgl).trans HCX.out)
  have hx1 : x.size ≤ 1000000000 := by omega
  have hs1 : s.size ≤ 1000000000 := by omega
  have hl1 := lenR_le s
  have hl2 := lenR_le x
  have hle : ¬ ((65536 : Int) < (lenR s : Int) + (lenR x : Int)) := by omega
  have hle2 : decide ((65536 : Int) < (lenR s : Int) + (lenR x : Int)) = false := decide_eq_false hle
  have w1' : IntKind.i64.wrap ((lenR s : Int) + (lenR x : Int)) = (lenR s : Int) + (lenR x : Int) := IntWalk.i64_in _ (by omega)
  refine wp_region_mix w1.heap.size 9 [([0, 2, 3, 4, 5, 6, 7], 1), ([], 8)] [] (by kernel_rfl) (fun c d v a w h => by cases d <;> exact h) (by kernel_rfl) ?_
  simp only [wpMix, pk_nil, pk_cons, pushAt_zero, pushAt_succ, List.drop_succ_cons, List.drop_zero]
  repeat (go_big_quiet_step (fail))
  refine wpQuiet_nil ?_
  go_wp2_with fail
  refine (rlen_any s _ hs1).mono ?_
  rintro e w2 ⟨rfl, hb3⟩
  have hb4 : Below w1.heap.size w1 w2 := (Below.refl _ _).drew.trans hb3
  go_wp2_with fail
  refine thenQ_normal ⟨⟨⟨_, hb4⟩, rfl⟩, ?_⟩
  refine wpQuiet_nil ?_
  go_wp2_with fail
  refine (rlen_any x _ hx1).mono ?_
  rintro e w3 ⟨rfl, hb5⟩
  have hb6 : Below w1.heap.size w1 w3 := up2 hb4 hb5
  go_wp2_with fail
  refine thenQ_normal ⟨⟨⟨_, hb6⟩, rfl⟩, ?_⟩
  refine wpQuiet_nil ?_
  have hb7 : Below w.heap.size w w3 := up2 hb hb6
  have h3 := H0.out.up hb7
  have k0 := h3.c0
  have kx : w3.cell? ⟨g, 0, none⟩ = some (.string x) := DX ⟨w3, hb6⟩
  have kz : w3.frozen? ⟨g, 0, none⟩ = false := (hb7.frozen (p := ⟨g, 0, none⟩) hgl).trans HZX.out
  have n1 : (⟨b, 1, none⟩ : Addr) ≠ ⟨g, 0, none⟩ := by simp
  have k1 : ∀ y : Value, (w3.setCell ⟨g, 0, none⟩ y).drew.cell? ⟨b, 1, none⟩ = some (.int .i64 at_) := fun y => by
    rw [World.cell?_drew, World.cell?_setCell_other _ _ _ _ (by simp)]; exact h3.c1
  have z1 : ∀ y : Value, (w3.setCell ⟨g, 0, none⟩ y).drew.frozen? ⟨b, 1, none⟩ = false := fun y => by
    rw [World.frozen?_drew, World.frozen?_setCell]; exact h3.fz 1 (by omega)
  have H3 := Lib.hid h3
  have n1' : ¬ (1 = 0) := by omega
  clear h3 H0 C0 DX h n1 n1'
  have HEND : ∀ y : ByteArray, y = catB s x ahead → RPost w b (.slice (some ⟨g, 0, none⟩) L.length cp) (catB s x ahead :: L.tail) most 0 0 (.returned (.int .i64 0)) (((w3.setCell ⟨g, 0, none⟩ (.string y)).drew).setCell ⟨b, 1, none⟩ (.int .i64 0)) := by
    intro y hy
    subst hy
    have hlen : (catB s x ahead :: L.tail).length = L.length := by simp; omega
    have h3 := H3.out
    have hb' : (w3.setCell ⟨g, 0, none⟩ (.string (catB s x ahead))).drew.heap[b]? = w3.heap[b]? := heap_set_other _ _ _ _ _ (fun e => HNE.out e.symm)
    have h4 : RRing (w3.setCell ⟨g, 0, none⟩ (.string (catB s x ahead))).drew b (.slice (some ⟨g, 0, none⟩) L.length cp) (catB s x ahead :: L.tail) most at_ :=
      ⟨(World.cell?_of_block (w := w3) (a := ⟨b, 0, none⟩) hb').trans h3.c0, (World.cell?_of_block (w := w3) (a := ⟨b, 1, none⟩) hb').trans h3.c1, (World.cell?_of_block (w := w3) (a := ⟨b, 2, none⟩) hb').trans h3.c2, fun i hi => (World.frozen?_of_block (w := w3) (a := ⟨b, i, none⟩) hb').trans (h3.fz i hi), (h3.own.setHead hn _).kept (fun _ _ => rfl), by rw [hlen]; exact h3.hn, h3.hm0, h3.hm1, by rw [hlen]; exact h3.hat⟩
    exact ⟨rfl, _, h4.setAt 0 (.inr rfl), (((Only.of_below hb7).setS (.inr rfl) _ _).drew).setS (.inl rfl) _ _, .inl rfl⟩
  have HE := Lib.hid HEND
  clear HEND
  cases ahead
  · go_wp2_with fail
    go_region
    go_wp2_with fail
    go_ret
    exact HE.out _ rfl
  · go_wp2_with fail
    go_region
    go_wp2_with fail
    go_ret
    exact HE.out _ rfl
end
end Go.Proofs.YtmnmloebomlllaaDoor
