import Derived.Test.YtafdebkamnmheaaGreatDoorRfH
import Derived.Test.YtafdebkamnmheaaGreatDoorJr
/- The reference's buffer: Insert into a new one; Boundary, Narrow. -/
namespace Go.Proofs.YtafdebkamnmheaaGreatDoor
open Go.RowKit
set_option linter.unusedVariables false
set_option linter.unusedSimpArgs false
section
variable {w w' : World}
set_option maxHeartbeats 1000000 in
theorem rput0 {b : Nat} (s : ByteArray) (hs : s.size ≤ 10000) (h0 : (chrs s).length = 0) : Calls Tryz.prog 58 #[pAt b, .int .i64 1, .string s, .bool false] w fun r w' => r = .returned (.tuple #[]) ∧ Below w.heap.size w w' := by
  have hLn := rlen_any s w (by omega)
  rw [lenR_chrs, h0] at hLn
  have HLn := Lib.hid hLn
  clear hLn h0 hs
  go_enter Tryz.func58, Tryz.ntmps58
  go_wp2_with fail
  refine HLn.out.mono ?_
  rintro e w1 ⟨rfl, hb1⟩
  go_wp2_with fail
  refine bodyPost_ret (results_none rfl _ _ _) rfl ?_
  exact ⟨rfl, hb1⟩
theorem rput_any {Z b t m p o l : Nat} {lock x y : Int} (h : RFr w Z b t m p o l lock x y) (s : ByteArray) (hs : s.size ≤ 10000) (hv : (charsD s.data.toList).isSome = true) :
    Calls Tryz.prog 58 #[pAt b, .int .i64 1, .string s, .bool false] w fun r w' => r = .returned (.tuple #[]) ∧ Only (fun k => Z ≤ k) w w' ∧ RAft w' Z b t l (chrs s).length 1 := by
  have hord := h.ord
  by_cases h0 : (chrs s).length = 0
  · refine (rput0 s hs h0).mono ?_
    rintro r w' ⟨rfl, hb⟩
    have h' := h.up hb
    rw [h0]
    exact ⟨rfl, Only.of_below hb, ⟨m, p, o, 1, 1, 0, 0, lock, h'.blk⟩, ⟨none, 0, h'.txt⟩, .inl h'.log, by omega⟩
  · exact rput1 h s hs hv (by omega)
theorem RLogF.kept {l : Nat} (h : RLogF w l) (hk : w'.heap[l]? = w.heap[l]?) : RLogF w' l := by
  rcases h with h | ⟨A, c, h⟩
  · exact .inl (h.kept hk)
  · exact .inr ⟨A, c, h.kept hk⟩
theorem RLogF.lt {l : Nat} (h : RLogF w l) : l < w.heap.size := by
  rcases h with h | ⟨A, c, h⟩
  · exact h.lt
  · exact h.lt
theorem RAft.up {Z b t l n pt : Nat} (h : RAft w Z b t l n pt) (hb : Below w.heap.size w w') : RAft w' Z b t l n pt := by
  obtain ⟨m, p, o, lo, hi, mk, tick, lock, hk⟩ := h.blk
  obtain ⟨A, cap, ht⟩ := h.txt
  exact ⟨⟨m, p, o, lo, hi, mk, tick, lock, hk.up hb⟩, ⟨A, cap, ht.up hb⟩, h.log.kept (hb.block _ h.log.lt), h.ord⟩
theorem RAft.only {Z b t l n pt : Nat} {S : Nat → Prop} (h : RAft w Z b t l n pt) (ho : Only S w w') (hs : ∀ k, Z ≤ k → ¬ S k) : RAft w' Z b t l n pt := by
  obtain ⟨m, p, o, lo, hi, mk, tick, lock, hk⟩ := h.blk
  obtain ⟨A, cap, ht⟩ := h.txt
  have hord := h.ord
  exact ⟨⟨m, p, o, lo, hi, mk, tick, lock, hk.only ho (hs b (by omega))⟩, ⟨A, cap, ht.only ho (hs t (by omega))⟩, h.log.kept (ho.block _ h.log.lt (hs l (by omega))), h.ord⟩
set_option maxRecDepth 100000 in
set_option maxHeartbeats 2000000 in
theorem rInsert {Z b t m p o l : Nat} {lock x y : Int} (h : RFr w Z b t m p o l lock x y) (s : ByteArray) (hs : s.size ≤ 10000) (hv : (charsD s.data.toList).isSome = true) :
    Calls Tryz.prog 21 #[pAt b, .string s, .bool false] w fun r w' => r = .returned (.int .i64 0) ∧ Only (fun k => Z ≤ k) w w' ∧ RAft w' Z b t l (chrs s).length (1 + (chrs s).length) := by
  have hlen := chrs_len s
  have HS := Lib.hid (rshut0 h.blk h.prs)
  have c5 : w.cell? ⟨b, 5, none⟩ = some (.int .i64 (1 : Int)) := h.blk.cell (j := 5) rfl
  have H := Lib.hid h
  have hord := h.ord
  have HV := Lib.hid hv
  have s1 : IntKind.i64.wrap (1 + ((chrs s).length : Int)) = ((1 + (chrs s).length : Nat) : Int) := by rw [IntWalk.i64_in _ (by omega)]; omega
  clear h hv
  go_enter Tryz.func21, Tryz.ntmps21
  go_wp2_with fail
  refine HS.out.mono ?_
  rintro r w1 ⟨rfl, hb1⟩
  have H1 := Lib.hid (H.out.up hb1)
  have B1 := Lib.hid hb1
  clear H HS hb1
  go_wp2_with fail
  refine (rfits0 H1.out.blk H1.out.txt s hs HV.out).mono ?_
  rintro r w2 ⟨rfl, hb2⟩
  have hh := H1.out.up hb2
  have B2 := Lib.hid (up2 B1.out hb2)
  have q5 : w2.cell? ⟨b, 5, none⟩ = some (.int .i64 (1 : Int)) := hh.blk.cell (j := 5) rfl
  have H2 := Lib.hid hh
  clear hh hb2 H1 B1 c5
  go_wp2_with fail
  refine (rput_any H2.out s hs HV.out).mono ?_
  rintro r w3 ⟨rfl, ho3, ha3⟩
  have A3 := Lib.hid ha3
  have O3 := Lib.hid ((Only.of_below (S := fun k => Z ≤ k) B2.out).trans ho3)
  clear ho3 ha3 B2 H2 q5
  have hL := rlen_any s w3 (by omega)
  rw [lenR_chrs] at hL
  go_wp2_with fail
  refine hL.mono ?_
  rintro r w4 ⟨rfl, hb4⟩
  have ha4 := A3.out.up hb4
  have O4 := Lib.hid (O3.out.trans (Only.of_below hb4))
  obtain ⟨⟨m', p', o', lo, hi, mk, tick, lock', hk⟩, ⟨A, cap, ht⟩, hl, hz⟩ := ha4
  have q5 : w4.cell? ⟨b, 5, none⟩ = some (.int .i64 (1 : Int)) := hk.cell (j := 5) rfl
  have f5 := hk.fz 5
  have HK := Lib.hid hk
  have HT := Lib.hid ht
  have HL := Lib.hid hl
  have hbw := hk.lt
  clear hk ht hl hL hb4 A3 O3
  go_wp2_with fail
  go_ret
  refine ⟨rfl, Only.setCell (S := fun k => Z ≤ k) (p := ⟨b, 5, none⟩) O4.out (by show Z ≤ b; omega) _, ⟨m', p', o', lo, hi, mk, tick, lock', HK.out.set (j := 5) (by simp) (.int .i64 ((1 + (chrs s).length : Nat) : Int))⟩, ⟨A, cap, HT.out.kept (Below.heap_setCell _ _ _ _ (by show t ≠ b; omega))⟩, HL.out.kept (Below.heap_setCell _ _ _ _ (by show l ≠ b; omega)), hz⟩
/-! ### Boundary -/
set_option maxRecDepth 100000 in
set_option maxHeartbeats 2000000 in
theorem rlbound0 {l : Nat} (h : Blk w l 133 (rlC (.slice none 0 0) 0)) : Calls Tryz.prog 60 #[pAt l] w fun r w' => r = .returned (.tuple #[]) ∧ Only (fun k => k = l) w w' := by
  have c1 := h.cell (j := 1) rfl
  have c2 := h.cell (j := 2) rfl
  have c4 := h.cell (j := 4) rfl
  clear h
  go_enter Tryz.func60, Tryz.ntmps60
  go_wp2_with fail
  go_loopw [2] (fun _ wr => w = wr) (fun _ _ => 0)
  case atStart => rfl
  case round =>
    subst hrel
    go_wp2_with fail
    go_region
    go_wp2_with fail
    go_end0
    exact ⟨rfl, (Only.refl _ w).drew⟩
set_option maxRecDepth 100000 in
set_option maxHeartbeats 2000000 in
theorem rlbound1 {l cap L : Nat} {A : Option Addr} (hL : L = 3) (h : Blk w l 133 (rlC (.slice A L cap) 3)) : Calls Tryz.prog 60 #[pAt l] w fun r w' => r = .returned (.tuple #[]) ∧ Only (fun k => k = l) w w' := by
  have hl := h.lt
  have C0 : ∀ x : UpW w.heap.size w, x.w.cell? ⟨l, 0, none⟩ = some (.slice none 0 0) := fun x => (h.up x.up).cell (j := 0) rfl
  have C1 : ∀ x : UpW w.heap.size w, x.w.cell? ⟨l, 1, none⟩ = some (.slice A L cap) := fun x => (h.up x.up).cell (j := 1) rfl
  have c1 := h.cell (j := 1) rfl
  have d0 : (0 < L) = True := by simp; omega
  clear hL
  have H := Lib.hid h
  clear h
  go_enter Tryz.func60, Tryz.ntmps60
  go_wp2_with fail
  clear c1
  obtain ⟨v', w3, happ, hown3, hb3, ho3, hblk3⟩ := append_elem eltG (B := w.heap.size) (w := w.drew) (ROwn.nil _ _ : ROwn encG 131 1 w.heap.size w.drew (.slice none 0 0) []) (Nat.le_refl _) (A, L, cap) (by simp) (by omega)
  have hb3' : Below w.heap.size w w3 := ((Below.refl w.heap.size w).drew).trans hb3
  obtain ⟨A3, cap3, rfl, _, _, _⟩ := hown3.shape eltG
  have HP := Lib.hid happ
  clear happ hown3 hb3 ho3 hblk3
  refine wp_region_mixS (fun k => k = l) [14, 17] (.one [(0, true), (1, false), (2, true), (3, true), (4, true), (5, true), (6, true), (7, true), (8, true), (9, true)] 10 (.one [] 11 (.one [(12, false), (13, true)] 14 (.one [(15, false), (16, false)] 17 (.done []))))) (by kernel_rfl) (fun c d v a w h => by cases d <;> exact h) (by kernel_rfl) ?_
  simp only [wpMixS, wpQ2, pk_nil, pk_cons, pushAt_zero, pushAt_succ, List.contains_cons, List.contains_nil, Bool.false_or, Bool.or_false, Bool.true_or, Bool.or_true, Nat.reduceBEq, Nat.reduceEqDiff]
  repeat (first | go_big_quiet_step (fail) | refine wpQuiet_nil ?_)
  clear C0 C1
  go_wp2_with fail
  refine thenQ_normal ⟨⟨⟨_, (Below.refl _ w).drew.alloc (Nat.le_refl _) _⟩, rfl⟩, ?_⟩
  refine wpList_app_run rfl _ _ _ rfl rfl rfl HP.out ?_
  go_wp2_with fail
  refine thenQ_normal ⟨⟨⟨_, hb3'⟩, rfl⟩, ?_⟩
  repeat (first | go_big_quiet_step (fail) | refine wpQuiet_nil ?_)
  have h3 := H.out.up hb3'
  have k0 := h3.cell (j := 0) rfl
  have k1 := h3.cell (j := 1) rfl
  have f0 := h3.fz 0
  have f1 := h3.fz 1
  have r0 := Only.setCell (S := fun k => k = l) (p := ⟨l, 0, none⟩) (Only.of_below hb3') rfl (.slice A3 1 cap3)
  have r1 := Only.setCell (S := fun k => k = l) (p := ⟨l, 1, none⟩) r0 rfl (.slice none 0 0)
  have hs0 : Blk ((w3.setCell ⟨l, 0, none⟩ (.slice A3 1 cap3)).setCell ⟨l, 1, none⟩ (.slice none 0 0)) l 133 #[.slice A3 1 cap3, .slice none 0 0, .int .i64 1048576, .int .i64 (-1), .int .i64 0, .int .i64 3] :=
    (h3.set (j := 0) (by simp) (.slice A3 1 cap3)).set (j := 1) (by simp) (.slice none 0 0)
  have HS := Lib.hid hs0
  have R1 := Lib.hid r1
  clear hs0 h3 r1
  go_wp2_with fail
  refine thenQ_normal ⟨⟨⟨_, r0⟩, rfl⟩, ?_⟩
  repeat (first | go_big_quiet_step (fail) | refine wpQuiet_nil ?_)
  go_wp2_with fail
  refine thenQ_normal ⟨⟨⟨_, R1.out⟩, rfl⟩, ?_⟩
  clear k0 k1 f0 f1 r0 HP H hb3'
  generalize (w3.setCell ⟨l, 0, none⟩ (.slice A3 1 cap3)).setCell ⟨l, 1, none⟩ (.slice none 0 0) = W at *
  have c4 := HS.out.cell (j := 4) rfl
  have c5 := HS.out.cell (j := 5) rfl
  have f4 := HS.out.fz 4
  have f5 := HS.out.fz 5
  go_wp2_with fail
  go_region
  have hk2 : Blk ((W.setCell ⟨l, 4, none⟩ (.int .i64 3)).setCell ⟨l, 5, none⟩ (.int .i64 0)) l 133 #[.slice A3 1 cap3, .slice none 0 0, .int .i64 1048576, .int .i64 (-1), .int .i64 3, .int .i64 0] :=
    (HS.out.set (j := 4) (by simp) (.int .i64 3)).set (j := 5) (by simp) (.int .i64 0)
  have R2 := Lib.hid (Only.setCell (S := fun k => k = l) (p := ⟨l, 5, none⟩) (Only.setCell (S := fun k => k = l) (p := ⟨l, 4, none⟩) R1.out rfl (.int .i64 3)) rfl (.int .i64 0))
  clear c4 c5 f4 f5
  have hk3 : Blk ((W.setCell ⟨l, 4, none⟩ (.int .i64 3)).setCell ⟨l, 5, none⟩ (.int .i64 0)).drew l 133 _ := hk2
  have R3 := Lib.hid R2.out.drew
  clear hk2 R2
  generalize ((W.setCell ⟨l, 4, none⟩ (.int .i64 3)).setCell ⟨l, 5, none⟩ (.int .i64 0)).drew = W3 at *
  have c2 := hk3.cell (j := 2) rfl
  have c4 := hk3.cell (j := 4) rfl
  go_wp2_with fail
  go_loopw [2] (fun _ wr => W3 = wr) (fun _ _ => 0)
  case atStart => rfl
  case round =>
    subst hrel
    go_wp2_with fail
    go_region
    go_wp2_with fail
    go_end0
    exact ⟨rfl, R3.out.drew⟩
theorem rlbound {l : Nat} (h : RLogF w l) : Calls Tryz.prog 60 #[pAt l] w fun r w' => r = .returned (.tuple #[]) ∧ Only (fun k => k = l) w w' := by
  rcases h with h | ⟨A, c, h⟩
  · exact rlbound0 h
  · exact rlbound1 rfl h
set_option maxHeartbeats 1000000 in
theorem rBoundary {Z b t l n pt : Nat} (h : RAft w Z b t l n pt) : Calls Tryz.prog 22 #[pAt b] w fun r w' => r = .returned (.tuple #[]) ∧ Only (fun k => k = l) w w' := by
  obtain ⟨⟨m, p, o, lo, hi, mk, tick, lock, hk⟩, ⟨A, cap, ht⟩, hl, hz⟩ := h
  have c13 := hk.cell (j := 13) rfl
  have c4 := hk.cell (j := 4) rfl
  have HL := Lib.hid (rlbound hl)
  clear hk ht hl
  go_enter Tryz.func22, Tryz.ntmps22
  go_wp2_with fail
  refine HL.out.mono ?_
  rintro r w' ⟨rfl, ho⟩
  go_wp2_with fail
  go_end0
  exact ⟨rfl, ho⟩
/-! ### Narrow -/
set_option maxHeartbeats 1000000 in
theorem rstand {b t m p o l pt lo hi mk tick : Nat} {lock : Int} (h : Blk w b 107 (refC t m p o l pt lo hi mk lock tick)) (x : Nat) : Calls Tryz.prog 67 #[pAt b, .int .i64 x] w fun r w' => r = .returned (.tuple #[]) ∧ Only (fun k => k = b) w w' := by
  have c5 := h.cell (j := 5) rfl
  have c6 : w.cell? ⟨b, 6, none⟩ = some (.int .i64 (lo : Int)) := h.cell (j := 6) rfl
  have c7 : w.cell? ⟨b, 7, none⟩ = some (.int .i64 (hi : Int)) := h.cell (j := 7) rfl
  have f5 := h.fz 5
  clear h
  go_enter Tryz.func67, Tryz.ntmps67
  go_region
  go_wp2_with fail
  go_end0
  exact ⟨rfl, (Only.setCell (S := fun k => k = b) (p := ⟨b, 5, none⟩) (Only.refl _ w) rfl _).drew⟩
set_option maxHeartbeats 2000000 in
theorem rNarrow {b t m p o l n pt lo hi mk tick cap : Nat} {lock : Int} {A : Option Addr} (hk : Blk w b 107 (refC t m p o l pt lo hi mk lock tick)) (ht : Blk w t 129 #[.slice A n cap]) (x y : Nat) (h1 : 1 ≤ x) (h2 : x ≤ y) (h3 : y ≤ n + 1) (hn : n ≤ 100000) : Calls Tryz.prog 25 #[pAt b, .int .i64 x, .int .i64 y] w fun r w' => r = .returned (.int .i64 0) ∧ Only (fun k => k = b) w w' := by
  have HM : Hid (Calls Tryz.prog 66 #[pAt b, .int .i64 x, .int .i64 y] w fun r w2 => r = .returned (.bool true) ∧ w = w2) := by
    refine Lib.hid ?_
    have HS := Lib.hid (rsize hk ht)
    have d1 : decide ((1 : Int) ≤ (x : Int)) = true := decide_eq_true (by omega)
    have d2 : (x ≤ y) = True := by simp; omega
    have s1 : IntKind.i64.wrap ((n : Int) + 1) = ((n + 1 : Nat) : Int) := by rw [IntWalk.i64_in _ (by omega)]; omega
    obtain ⟨q, hq⟩ : ∃ q, n + 1 = q := ⟨_, rfl⟩
    rw [hq] at s1 h3
    have d3 : (y ≤ q) = True := by simp; omega
    clear hk ht h1 h2 h3 hn hq
    go_enter Tryz.func66, Tryz.ntmps66
    go_wp2_with fail
    refine HS.out.mono ?_
    rintro r w1 ⟨rfl, rfl⟩
    go_wp2_with fail
    go_ret
    exact ⟨rfl, rfl⟩
  have k6 := hk.cell (j := 6) rfl
  have k7 := hk.cell (j := 7) rfl
  have k5 : w.cell? ⟨b, 5, none⟩ = some (.int .i64 (pt : Int)) := hk.cell (j := 5) rfl
  have f6 := hk.fz 6
  have f7 := hk.fz 7
  have HK := Lib.hid hk
  clear hk ht h1 h2 h3 hn
  go_enter Tryz.func25, Tryz.ntmps25
  go_wp2_with fail
  refine HM.out.mono ?_
  rintro r w1 ⟨rfl, rfl⟩
  go_wp2_with fail
  have hk2 : Blk ((w.setCell ⟨b, 6, none⟩ (.int .i64 (x : Int))).setCell ⟨b, 7, none⟩ (.int .i64 (y : Int))) b 107 (refC t m p o l pt x y mk lock tick) := (HK.out.set (j := 6) (by simp) (.int .i64 (x : Int))).set (j := 7) (by simp) (.int .i64 (y : Int))
  have r2 := Only.setCell (S := fun k => k = b) (p := ⟨b, 7, none⟩) (Only.setCell (S := fun k => k = b) (p := ⟨b, 6, none⟩) (Only.refl _ w) rfl (.int .i64 (x : Int))) rfl (.int .i64 (y : Int))
  refine (rstand hk2 pt).mono ?_
  rintro r w3 ⟨rfl, ho3⟩
  go_wp2_with fail
  go_ret
  exact ⟨rfl, r2.trans ho3⟩
end
end Go.Proofs.YtafdebkamnmheaaGreatDoor
