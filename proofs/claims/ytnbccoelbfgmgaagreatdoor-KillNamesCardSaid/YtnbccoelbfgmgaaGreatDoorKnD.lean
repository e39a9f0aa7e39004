/- KillNames: the calls on its rectangles. -/
import Derived.Test.YtnbccoelbfgmgaaGreatDoorKnB
import Derived.Test.YtnbccoelbfgmgaaGreatDoorKcF
import Derived.Test.YtnbccoelbfgmgaaGreatDoorZ21
import Derived.Test.YtnbccoelbfgmgaaGreatDoorZ22
namespace Go.Proofs.YtnbccoelbfgmgaaGreatDoor
open Go.RowKit Go.Lib
set_option linter.unusedVariables false
set_option linter.unusedSimpArgs false
theorem app_list2 (a b : ByteArray) : (a ++ b).data.toList = a.data.toList ++ b.data.toList := by rw [ByteArray.data_append, Array.toList_append]
section
variable {w : World} {N b B : Nat} {F : Nat → Prop} {T : Tx}
theorem PB.wide_r (h : PB N w b F T B) (hw : Wide T) {cs : List Nat} {n : Nat} (hc : T.cs = cs) (hn : cs.length + 1 = n) : ∀ w', Below w.heap.size w w' → BufR w' b cs T.S.pt 1 n := fun w' hb => by
  have := (h.up hb).r
  rw [hw.lo, hw.hi, hc, hn] at this
  exact this
set_option maxRecDepth 100000 in
theorem rowsCallA (h : PB N w b F T B) (hw : Wide T) (hc : T.cs = csA) : ∀ w', Below w.heap.size w w' → Calls Tryz.prog 42 #[pAt b, .int .i64 2, .int .i64 8, .int .i64 8] w' (RowsP w' rowsA) := fun w' hb => by
  have := rows_ok (tab := 8) (h.wide_r hw hc (n := 9) (by decide) w' hb) 2 8 (by omega) (by omega) (by omega) (by omega) (by omega) (by omega) (fun b i hi => colN_cap9 (by omega) b i (by omega)) 1 3 (by rw [colA2, colA8]; decide) (by rw [colA2, colA8]; decide) pA 1 (by omega) pA_0 pA_M pA_n pA_s pA_l
  rw [rowsA_is] at this
  exact this
set_option maxRecDepth 100000 in
theorem rowsCallW (h : PB N w b F T B) (hw : Wide T) (hc : T.cs = csW 255) : ∀ w', Below w.heap.size w w' → Calls Tryz.prog 42 #[pAt b, .int .i64 1, .int .i64 260, .int .i64 64] w' (RowsP w' (rowsW 255)) := fun w' hb => by
  have := rows_ok (tab := 64) (h.wide_r hw hc (n := 260) (by decide +kernel) w' hb) 1 260 (by omega) (by omega) (by omega) (by omega) (by omega) (by omega) (fun b i hi => colN_cap9 (by omega) b i (by omega)) 0 256 (by rw [colW_1.1, colW_1.2.1]; decide) (by rw [colW_1.1, colW_1.2.1]; decide) (fun j => j + 1) 255 (by omega) colW_1.2.2.1 colW_1.2.2.2 (fun j hj => by omega) stepW_1 (fun j hj => by omega)
  rw [rowsW_1] at this
  exact this
set_option maxRecDepth 100000 in
theorem rowsCallW2 (h : PB N w b F T B) (hw : Wide T) (hc : T.cs = csW 256) : ∀ w', Below w.heap.size w w' → Calls Tryz.prog 42 #[pAt b, .int .i64 1, .int .i64 261, .int .i64 64] w' (RowsP w' (rowsW 256)) := fun w' hb => by
  have := rows_ok (tab := 64) (h.wide_r hw hc (n := 261) (by decide +kernel) w' hb) 1 261 (by omega) (by omega) (by omega) (by omega) (by omega) (by omega) (fun b i hi => colN_cap9 (by omega) b i (by omega)) 0 256 (by rw [colW_2.1, colW_2.2.1]; decide) (by rw [colW_2.1, colW_2.2.1]; decide) (fun j => j + 1) 256 (by omega) colW_2.2.2.1 colW_2.2.2.2 (fun j hj => by omega) stepW_2 (fun j hj => by omega)
  rw [rowsW_2] at this
  exact this
/-- A slice of strings is handed back, no error. -/
def StrsP (w : World) (L : List ByteArray) (e : Ending) (w' : World) : Prop := ∃ v, e = .returned (.tuple #[v, .int .i64 0]) ∧ ROwn encStr 9 1 w.heap.size w' v L ∧ Below w.heap.size w w'
set_option maxRecDepth 100000 in
theorem cutP_few {w w' : World} {T : Tx} {R : List Row3} {e : Ending} (h : CutP w T R e w') (hm : manyR R ≤ 65536) : StrsP w (R.map (cutS T)) e w' := by
  unfold CutP at h
  rw [if_neg (by omega)] at h
  exact h
set_option maxRecDepth 100000 in
theorem cutCallA (h : PB N w b F T B) (hw : Wide T) (hc : T.cs = csA) : Calls Tryz.prog 11 #[pAt b, .int .i64 2, .int .i64 8, .int .i64 8] w (StrsP w [⟨#[98, 99]⟩, ⟨#[101, 102]⟩]) := by
  have := (cut_ok h 2 8 8 (rowsCallA h hw hc) rowsA_B).mono (fun e w' h => cutP_few h rowsA_many)
  rw [cutA hw hc] at this
  exact this
set_option maxRecDepth 100000 in
theorem cutCallW (h : PB N w b F T B) (hw : Wide T) (hc : T.cs = csW 255) : Calls Tryz.prog 11 #[pAt b, .int .i64 1, .int .i64 260, .int .i64 64] w (StrsP w ((rowsW 255).map (cutS T))) :=
  (cut_ok h 1 260 64 (rowsCallW h hw hc) (rowsW_B 255 (by omega))).mono (fun e w' h => cutP_few h manyW_1)
set_option maxRecDepth 100000 in
theorem cutCallW2 (h : PB N w b F T B) (hw : Wide T) (hc : T.cs = csW 256) : Calls Tryz.prog 11 #[pAt b, .int .i64 1, .int .i64 261, .int .i64 64] w fun e w' => e = .returned (.tuple #[.slice none 0 0, .int .i64 4]) ∧ Below w.heap.size w w' :=
  (cut_ok h 1 261 64 (rowsCallW2 h hw hc) (rowsW_B 256 (by omega))).mono (fun e w' h => by
    unfold CutP at h
    rw [if_pos manyW_2] at h
    exact h)

set_option maxRecDepth 100000 in
theorem cutW_ends {T : Tx} (hw : Wide T) (hc : T.cs = csW 255) : ((rowsW 255).map (cutS T))[0]? = some (repB 32 256) ∧ ((rowsW 255).map (cutS T))[255]? = some ⟨#[9, 9, 9, 9]⟩ ∧ ((rowsW 255).map (cutS T)).length = 256 := by
  have hlo := hw.lo; have hhi := hw.hi
  rw [hc] at hhi
  have hl : (csW 255).length = 259 := by decide +kernel
  have h1 : reachB T.S 1 1 = true := reach_iff.2 ⟨by omega, by omega, by omega⟩
  have h2 : reachB T.S 256 260 = true := reach_iff.2 ⟨by omega, by omega, by omega⟩
  have e0 : (rowsW 255)[0]? = some (1, 1, 256) := by decide +kernel
  have e1 : (rowsW 255)[255]? = some (256, 260, 0) := by decide +kernel
  refine ⟨?_, ?_, by simp [rowsW]⟩
  · rw [List.getElem?_map, e0]
    show some (cutS T (1, 1, 256)) = _
    unfold cutS textV
    dsimp only
    rw [if_pos h1, hc]
    have : (encS (subL (csW 255) (Int.toNat 1) (Int.toNat 1))).data.toList = [] := by rw [encS_list]; decide +kernel
    refine congrArg some (bytes_ext ?_)
    rw [app_list2, this]
    rfl
  · rw [List.getElem?_map, e1]
    show some (cutS T (256, 260, 0)) = _
    unfold cutS textV
    dsimp only
    rw [if_pos h2, hc]
    have : (encS (subL (csW 255) (Int.toNat 256) (Int.toNat 260))).data.toList = [9, 9, 9, 9] := by rw [encS_list]; decide +kernel
    refine congrArg some (bytes_ext ?_)
    rw [app_list2, this]
    rfl
theorem takeT_G2 (T : Tx) (x y : Nat) : (takeT T x y).G = T.G := by unfold takeT; split <;> rfl
theorem erF_G2 (T : Tx) : ∀ L : List Row3, (erF T L).2.G = T.G
  | [] => rfl
  | r :: L => by
    have ih := erF_G2 T L
    by_cases h : (erF T L).1 = 0
    · rw [erF_cons T r L h]
      dsimp only
      split
      · exact (takeT_G2 _ _ _).trans ih
      · exact ih
    · rw [erF_bad T r L h]; exact ih
/-- A plain buffer of these characters, all of it within reach. -/
structure WB (N : Nat) (w : World) (b : Nat) (F : Nat → Prop) (cs : List Nat) (B : Nat) (T : Tx) : Prop where
  pb : PB N w b F T B
  wd : Wide T
  cs : T.cs = cs
  g : ∀ g ∈ T.G, g.length ≤ 3
set_option maxRecDepth 100000 in
theorem eraseCallA (hT : Tabs N w) (hRu : Rules N w) (h : WB N w b F csA 5 T) (hF : edF N F) : Calls Tryz.prog 12 #[pAt b, .int .i64 2, .int .i64 8, .int .i64 8] w fun e w' => e = .returned (.int .i64 0) ∧ Only F w w' ∧ ∃ T1, WB N w' b (grow F w.heap.size) [97, 10, 100, 103] 29 T1 := by
  obtain ⟨e1, e2, e3⟩ := erA h.wd h.cs
  have hl : T.cs.length = 8 := by rw [h.cs]; rfl
  refine (Erase_ok hT hRu h.pb hF h.wd.ro (R := rowsA) (by decide) (by rw [hl]; decide) (fun g hg => by have := h.g g hg; omega) 2 8 8 (rowsCallA h.pb h.wd h.cs)).mono ?_
  rintro e w' ⟨rfl, ho, hp⟩
  rw [e1, if_pos rfl, hl] at hp
  exact ⟨by rw [e1], ho, _, hp, e3, e2, fun g hg => h.g g (by rw [erF_G2] at hg; exact hg)⟩
theorem badA : ssA.any badS = false := by decide +kernel
set_option maxRecDepth 100000 in
theorem pasteCallA {A : Option Addr} {c : Nat} (hT : Tabs N w) (hRu : Rules N w) (h : WB N w b F [97, 10, 100, 103] B T) (hB : B ≤ 1000) (hF : edF N F) (hL : RSl encStr w A ssA) (hsep : ∀ g o z, A = some ⟨g, o, z⟩ → ¬ F g) :
    Calls Tryz.prog 13 #[pAt b, .int .i64 2, .int .i64 8, .slice A 3 c] w fun e w' => e = .returned (.int .i64 0) ∧ Only F w w' ∧ ∃ T1, PB N w' b (grow F w.heap.size) T1 (B + 36) ∧ T1.cs = [97, 88, 10, 100, 89, 103, 10, 32, 90] := by
  obtain ⟨e1, e2, e3⟩ := paA h.wd h.cs
  have hlo := h.wd.lo; have hhi := h.wd.hi
  rw [h.cs] at hhi
  have hcol : colN widN T.cs 8 (lineB T.cs T.S.lo 2) 2 = 1 := by rw [hlo, h.cs]; decide +kernel
  have := Paste_ok (tab := 8) (ss := ssA) (c := c) hT hRu h.pb hF 2 ⟨by omega, by rw [hhi]; decide, h.wd.ro⟩ (by omega) (by omega) (by decide) (by show B + 3 * 12 ≤ 890000; omega) (fun g hg => by have := h.g g hg; omega) hL (by decide) (fun g o z e _ => hsep g o z e) (by rw [hcol]; omega)
  rw [hcol] at this
  refine this.mono ?_
  rintro e w' ⟨rfl, ho, hp⟩
  rw [if_pos ⟨badA, e1⟩] at hp
  exact ⟨by rw [badA, e1]; rfl, ho, _, hp, e2⟩
/-- A line feed put ahead of the wide text. -/
theorem insW {T : Tx} (h : T.cs = csW 255) (hw : Wide T) : fitsE ⟨#[10]⟩ T.cs.length 0 = 0 ∧ Wide (insT { T with S := { T.S with pt := 1 } } (chrs ⟨#[10]⟩) false) ∧ (insT { T with S := { T.S with pt := 1 } } (chrs ⟨#[10]⟩) false).cs = csW 256 := by
  have hl : T.cs.length = 259 := by rw [h]; decide +kernel
  refine ⟨by rw [hl]; decide +kernel, (hw.pt 1).ins (Nat.le_refl 1) (by show 1 ≤ T.cs.length + 1; omega), ?_⟩
  show (putT { T with S := { T.S with pt := 1 } } 1 (chrs ⟨#[10]⟩) false).cs = _
  rw [putT_cs]
  show insC T.cs 1 (chrs ⟨#[10]⟩) = _
  rw [h]; decide +kernel
end
end Go.Proofs.YtnbccoelbfgmgaaGreatDoor
