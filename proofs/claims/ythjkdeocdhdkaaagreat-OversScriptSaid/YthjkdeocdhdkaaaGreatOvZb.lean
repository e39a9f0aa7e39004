/- Overlays: the chapter's examples. -/
import Derived.Test.YthjkdeocdhdkaaaGreatOvZa
namespace Go.Proofs.YthjkdeocdhdkaaaGreat
open Go.RowKit
set_option linter.unusedVariables false
set_option linter.unusedSimpArgs false
section
variable {w w' W : World} {b : Nat} {pr ev nx : Int} {A A' : Option Addr} {S T : Nat → Prop}
theorem cells_I : ∀ l : List Int, cellsL encI l = l.map fun z => Value.int .i64 z
  | [] => rfl
  | a :: l => by rw [cellsL_cons, cells_I l]; rfl
theorem RSl.lit {g : Nat} {E : TypeId} {f : Nat × Nat} (l : List Int) (hg : w.heap[g]? = some (.cells (l.map fun z => Value.int .i64 z).toArray E f)) : RSl encI w (some ⟨g, 0, none⟩) l := fun _ =>
  ⟨g, 0, rfl, (Array.getElem?_eq_some_iff.1 hg).1, fun j u hu => by
    rw [cells_I] at hu
    simp only [World.cell?, hg, Nat.zero_add]
    simpa using hu⟩
theorem SPost.below {ret : Value} {D : List OverD} {e : Ending} (h : SPost w b pr ev S ret D nx e w') {N : Nat} (hN : N ≤ w.heap.size) (hs : ∀ k, S k → N ≤ k) : e = .returned ret ∧ OSt w' b pr ev D nx (fun k => N ≤ k) ∧ Below N w w' := by
  obtain ⟨he, S', h1, h2, h3⟩ := h
  exact ⟨he, h1.mono fun k hk => by rcases h3 k hk with h | h
                                    · exact hs k h
                                    · omega, h2.below hN hs⟩
def lD1 : List OverD := [⟨0, 2, 6, false, false, []⟩]
def lD2 : List OverD := [⟨0, 2, 6, false, false, []⟩, ⟨1, 3, 5, false, false, []⟩]
def lD3 : List OverD := [⟨0, 2, 6, false, false, [⟨1, 0, 5⟩]⟩, ⟨1, 3, 5, false, false, []⟩]
def lD4 : List OverD := [⟨0, 2, 6, false, false, [⟨1, 0, 5⟩]⟩, ⟨1, 3, 5, false, false, [⟨2, 1, 1⟩]⟩]
def lD5 : List OverD := [⟨0, 2, 4, false, false, [⟨1, 0, 5⟩]⟩]
theorem lA1 : addR [] 0 2 6 = 0 ∧ addE [] 2 6 = 0 ∧ addD [] 0 2 6 false false = lD1 ∧ addN [] 0 2 6 = 1 := ⟨by decide, by decide, rfl, by decide⟩
theorem lA2 : addR lD1 1 3 5 = 1 ∧ addE lD1 3 5 = 0 ∧ addD lD1 1 3 5 false false = lD2 ∧ addN lD1 1 3 5 = 2 := ⟨by decide, by decide, rfl, by decide⟩
theorem lW1 : WfD lD1 1 := by have h := wf_add WfD.nil 2 6 false false; rwa [lA1.2.2.1, lA1.2.2.2] at h
theorem lW2 : WfD lD2 2 := by have h := wf_add lW1 3 5 false false; rwa [lA2.2.2.1, lA2.2.2.2] at h
theorem lP3 : putE lD2 0 1 = 0 ∧ putD lD2 0 1 0 5 = lD3 := ⟨rfl, rfl⟩
theorem lW3 : WfD lD3 2 := by have h := wf_put lW2 0 1 0 5; rwa [lP3.2] at h
theorem lP4 : putE lD3 1 2 = 0 ∧ putD lD3 1 2 1 1 = lD4 := ⟨rfl, rfl⟩
theorem lW4 : WfD lD4 2 := by have h := wf_put lW3 1 2 1 1; rwa [lP4.2] at h
theorem lE5 : delI 2 3 5 lD4 = [1] ∧ delE 3 5 = 0 ∧ delD 2 3 5 lD4 = lD5 := ⟨rfl, rfl, rfl⟩
theorem lW5 : WfD lD5 2 := by have h := wf_del lW4 2 3 5; rwa [lE5.2.2] at h
theorem lT2 : atI 1 lD2 4 = [0, 1] := by
  unfold atI
  have hf : lD2.filter (covB 4) = lD2 := rfl
  rw [hf, sortD_eq lW2.nodup (List.Perm.refl _)]
  · rfl
  · exact List.pairwise_cons.2 ⟨fun y hy => by simp at hy; subst hy; decide, by simp⟩
theorem lT3 : atI 1 lD3 4 = [1, 0] := by
  unfold atI
  have hf : lD3.filter (covB 4) = lD3 := rfl
  rw [hf, sortD_eq (M := [⟨1, 3, 5, false, false, []⟩, ⟨0, 2, 6, false, false, [⟨1, 0, 5⟩]⟩]) lW3.nodup (List.Perm.swap _ _ _)]
  · rfl
  · exact List.pairwise_cons.2 ⟨fun y hy => by simp at hy; subst hy; decide, by simp⟩
set_option maxRecDepth 100000 in
set_option maxHeartbeats 4000000 in
theorem lives_true (w : World) : Calls Tryz.prog 4 #[] w fun e w' => e = .returned (.bool true) ∧ Below w.heap.size w w' := by
  go_enter Tryz.func4, Tryz.ntmps4
  go_wp2_with fail
  refine (s_new 1 2 w).mono ?_
  rintro e w1 ⟨b, rfl, s1, b1⟩
  have z1 := b1.size
  go_wp2_with fail
  refine (s_add s1 WfD.nil 2 6 false false (by omega)).mono ?_
  rw [lA1.1, lA1.2.1, lA1.2.2.1, lA1.2.2.2]
  rintro e w2 hp
  obtain ⟨rfl, s2, b2⟩ := hp.below z1 (fun k hk => hk)
  have bw2 := b1.trans b2
  have z2 := bw2.size
  clear s1 b1 b2 hp z1
  go_wp2_with fail
  refine (s_add s2 lW1 3 5 false false (by omega)).mono ?_
  rw [lA2.1, lA2.2.1, lA2.2.2.1, lA2.2.2.2]
  rintro e w3 hp
  obtain ⟨rfl, s3, b3⟩ := hp.below z2 (fun k hk => hk)
  have bw3 := bw2.trans b3
  have z3 := bw3.size
  clear s2 bw2 b3 hp z2
  go_wp2_with fail
  refine (s_at s3 lW2 4).mono ?_
  rw [lT2]
  rintro e w4 ⟨v4, rfl, o4, b4⟩
  have s4 := s3.up b4
  have bw4 := up2 bw3 b4
  clear s3 bw3 b4 z3
  obtain ⟨A4, c4, rfl, _, _, r4⟩ := o4.shape eltI
  have r4' := r4.up (below1 w4 (.cells #[.int .i64 0, .int .i64 1] 3))
  have q4 := RSl.lit [0, 1] (MapKept.heap_alloc w4 (.cells #[.int .i64 0, .int .i64 1] 3)).1
  have SM := Lib.hid (same_any r4' q4 c4 2 (by simp) (by simp))
  have s5 := s4.up (below1 w4 (.cells #[.int .i64 0, .int .i64 1] 3))
  have bw5 := up2 bw4 (below1 w4 (.cells #[.int .i64 0, .int .i64 1] 3))
  clear o4 r4 r4' q4 s4 bw4
  simp only [List.length_cons, List.length_nil, Nat.reduceAdd] at SM
  go_wp2_with fail
  refine SM.out.mono ?_
  rintro e w6 ⟨rfl, b6⟩
  have s6 := s5.up b6
  have bw6 := up2 bw5 b6
  clear s5 bw5 b6 SM
  go_wp2_with fail
  refine (kint_any 5 _).mono ?_
  rintro e w7 ⟨rfl, b7⟩
  have s7 := s6.up b7
  have bw7 := up2 bw6 b7
  have z7 := bw7.size
  clear s6 bw6 b7
  go_wp2_with fail
  refine (s_put s7 lW2 0 1 0 5).mono ?_
  rw [lP3.1, lP3.2]
  rintro e w8 hp
  obtain ⟨rfl, s8, b8⟩ := hp.below z7 (fun k hk => hk)
  have bw8 := bw7.trans b8
  clear s7 bw7 b8 hp z7
  go_wp2_with fail
  refine (s_at s8 lW3 4).mono ?_
  rw [lT3]
  rintro e w9 ⟨v9, rfl, o9, b9⟩
  have s9 := s8.up b9
  have bw9 := up2 bw8 b9
  clear s8 bw8 b9
  obtain ⟨A9, c9, rfl, _, _, r9⟩ := o9.shape eltI
  have r9' := r9.up (below1 w9 (.cells #[.int .i64 1, .int .i64 0] 3))
  have q9 := RSl.lit [1, 0] (MapKept.heap_alloc w9 (.cells #[.int .i64 1, .int .i64 0] 3)).1
  have SM := Lib.hid (same_any r9' q9 c9 2 (by simp) (by simp))
  have s10 := s9.up (below1 w9 (.cells #[.int .i64 1, .int .i64 0] 3))
  have bw10 := up2 bw9 (below1 w9 (.cells #[.int .i64 1, .int .i64 0] 3))
  clear o9 r9 r9' q9 s9 bw9
  simp only [List.length_cons, List.length_nil, Nat.reduceAdd] at SM
  go_wp2_with fail
  refine SM.out.mono ?_
  rintro e w11 ⟨rfl, b11⟩
  have s11 := s10.up b11
  have bw11 := up2 bw10 b11
  clear s10 bw10 b11 SM
  go_wp2_with fail
  refine (kt_any _).mono ?_
  rintro e w12 ⟨rfl, b12⟩
  have s12 := s11.up b12
  have bw12 := up2 bw11 b12
  have z12 := bw12.size
  clear s11 bw11 b12
  go_wp2_with fail
  refine (s_put s12 lW3 1 2 1 1).mono ?_
  rw [lP4.1, lP4.2]
  rintro e w13 hp
  obtain ⟨rfl, s13, b13⟩ := hp.below z12 (fun k hk => hk)
  have bw13 := bw12.trans b13
  have z13 := bw13.size
  clear s12 bw12 b13 hp z12
  go_wp2_with fail
  refine (s_del s13 lW4 3 5).mono ?_
  rw [lE5.1, lE5.2.1, lE5.2.2]
  rintro e w14 ⟨v14, rfl, o14, S14, s14, on14, _⟩
  have b14 := on14.below z13 (fun k hk => hk)
  have bw14 := bw13.trans b14
  clear s13 bw13 b14 on14 z13
  obtain ⟨A14, c14, rfl, _, _, r14⟩ := o14.shape eltI
  go_wp2_with fail
  refine (s_ends s14 lW5 0).mono ?_
  rw [show endsV (endsD lD5 0) = .tuple #[.int .i64 2, .int .i64 4, .bool true] from rfl]
  rintro e w15 ⟨rfl, b15⟩
  have bw15 := up2 bw14 b15
  have r15 := (r14.up b15).up (below1 w15 (.cells #[.int .i64 1] 3))
  have q15 := RSl.lit [1] (MapKept.heap_alloc w15 (.cells #[.int .i64 1] 3)).1
  have SM := Lib.hid (same_any r15 q15 c14 1 (by simp) (by simp))
  have bw16 := up2 bw15 (below1 w15 (.cells #[.int .i64 1] 3))
  clear o14 r14 r15 q15 s14 bw14 b15 bw15
  simp only [List.length_cons, List.length_nil, Nat.reduceAdd] at SM
  go_wp2_with fail
  refine SM.out.mono ?_
  rintro e w17 ⟨rfl, b17⟩
  have bw17 := up2 bw16 b17
  clear bw16 b17 SM
  go_wp2_with fail
  go_ret
  exact ⟨rfl, bw17⟩
end
end Go.Proofs.YthjkdeocdhdkaaaGreat
