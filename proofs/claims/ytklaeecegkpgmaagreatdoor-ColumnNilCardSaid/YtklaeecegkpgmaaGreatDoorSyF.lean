import Derived.Test.YtklaeecegkpgmaaGreatDoorSyE
import Derived.Test.YtklaeecegkpgmaaGreatDoorJk
/- package syntax: chars; what happens outside of strings and comments. -/
namespace Go.Proofs.YtklaeecegkpgmaaGreatDoor
open Go.RowKit
set_option linter.unusedVariables false
set_option linter.unusedSimpArgs false
abbrev stC (v : Value) (u i s : Int) (c q : Bool) : Array Value := #[v, .int .i64 u, .int .i64 i, .bool c, .int .i64 s, .bool q]
section
variable {w w' : World} {tb bs ms mo k l a : Nat} {v : Value} {u i s : Int} {c q : Bool}
set_option maxHeartbeats 1000000 in
theorem chars_ok {N : Nat} (hT : Tabs N w) (h : LspT w tb bs ms mo) (t : ByteArray) (hs : t.size ≤ 1000000) (hv : (charsD t.data.toList).isSome = true) : Calls Tryz.prog 53 #[pAt tb, .string t] w fun e w' => ∃ v, e = .returned (.tuple #[v, .int .i64 0]) ∧ ROwn encI 3 1 w.heap.size w' v ((chrs t).map Int.ofNat) ∧ Below w.heap.size w w' := by
  have HN := Lib.hid (tnone_ok h)
  have HL := Lib.hid (rlist_ok hT t hs hv)
  clear hT h hs hv
  go_enter Tryz.func53, Tryz.ntmps53
  go_wp2_with fail
  refine HN.out.mono ?_
  rintro e w1 ⟨rfl, rfl⟩
  go_wp2_with fail
  refine HL.out.mono ?_
  rintro e w1 ⟨v, rfl, h1, h2⟩
  obtain ⟨A, cp, hv', _, _, _⟩ := h1.shape eltI
  rw [List.length_map] at hv'
  subst hv'
  have H1 := Lib.hid h1
  clear h1
  go_wp2_with fail
  go_ret2
  exact ⟨_, rfl, H1.out, h2⟩
set_option maxRecDepth 100000 in
set_option maxHeartbeats 1000000 in
theorem clone0 (w : World) : Calls Tryz.prog 54 #[.slice none 0 0] w fun e w' => e = .returned (.slice none 0 0) ∧ w = w' := by
  have hn := Lib.run_eql_slice_nil (P := Tryz.prog) w 50 3 none 0 0 0 0 Tryz.underlying50
  go_enter Tryz.func54, Tryz.ntmps54
  go_wp2_with fail
  go_ret
  exact ⟨rfl, rfl⟩
set_option maxHeartbeats 1000000 in
theorem ov1 (w : World) : Calls Tryz.prog 55 #[] w fun e w' => e = .returned (.tuple #[]) ∧ w = w' := by
  go_enter Tryz.func55, Tryz.ntmps55
  go_wp2_with fail
  go_end0
  exact ⟨rfl, rfl⟩
set_option maxHeartbeats 1000000 in
theorem ov7 (w : World) : Calls Tryz.prog 61 #[] w fun e w' => e = .returned (.tuple #[]) ∧ w = w' := by
  go_enter Tryz.func61, Tryz.ntmps61
  go_wp2_with fail
  go_end0
  exact ⟨rfl, rfl⟩
set_option maxHeartbeats 1000000 in
theorem ov2 (h : Blk w k 52 (stC v u i s c q)) : Calls Tryz.prog 56 #[pAt k] w fun e w' => e = .returned (.tuple #[]) ∧ Only (fun j => j = k) w w' ∧ Blk w' k 52 (stC v u i s c true) := by
  have c5 := h.cell (j := 5) rfl
  have f5 := h.fz 5
  have H := Lib.hid h
  clear h
  go_enter Tryz.func56, Tryz.ntmps56
  go_wp2_with fail
  go_end0
  exact ⟨rfl, Only.setCell (S := fun j => j = k) (p := ⟨k, 5, none⟩) (Only.refl _ w) rfl _, H.out.set (j := 5) (by simp) (.bool true)⟩
set_option maxRecDepth 100000 in
set_option maxHeartbeats 1000000 in
theorem ov3 {A : Option Addr} {L : List Int} {cap : Nat} (h : Blk w k 52 (stC v u i s c q)) (hl : Blk w l 50 #[.slice A L.length cap]) (hL : RSl encI w A L) (n : Nat) (hn : n < L.length) (ha : Blk w a 3 #[.int .i64 n]) :
    Calls Tryz.prog 57 #[pAt l, pAt a, pAt k] w fun e w' => e = .returned (.tuple #[]) ∧ Only (fun j => j = k) w w' ∧ Blk w' k 52 (stC v u (L.getD n 0) n c q) := by
  have hx : L[n]? = some (L.getD n 0) := by rw [List.getD_eq_getElem?_getD, List.getElem?_eq_getElem hn]; rfl
  generalize L.getD n 0 = x at *
  obtain ⟨g, o, rfl, hg, hat⟩ := hL.at_ eltI hx
  have k0 := hat 0 _ rfl
  rw [Nat.mul_one, Nat.add_zero] at k0
  have hn' : (n : Int) < L.length := by omega
  have c2 := h.cell (j := 2) rfl
  have f2 := h.fz 2
  have c4 := h.cell (j := 4) rfl
  have f4 := h.fz 4
  have l0 := hl.cell (j := 0) rfl
  have a0 : w.cell? ⟨a, 0, none⟩ = some (.int .i64 (n : Int)) := ha.cell (j := 0) rfl
  have H := Lib.hid h
  clear h hl hL ha hx hat hn
  go_enter Tryz.func57, Tryz.ntmps57
  go_wp2_with fail
  go_region
  go_wp2_with fail
  go_end0
  exact ⟨rfl, (Only.setCell (S := fun j => j = k) (p := ⟨k, 4, none⟩) (Only.setCell (S := fun j => j = k) (p := ⟨k, 2, none⟩) (Only.refl _ w) rfl _) rfl _).drew, (H.out.set (j := 2) (by simp) (.int .i64 x)).set (j := 4) (by simp) (.int .i64 (n : Int))⟩
set_option maxHeartbeats 1000000 in
theorem ov4 (h : Blk w k 52 (stC v u i s c q)) (n : Nat) (ha : Blk w a 3 #[.int .i64 n]) :
    Calls Tryz.prog 58 #[pAt a, pAt k] w fun e w' => e = .returned (.tuple #[]) ∧ Only (fun j => j = k) w w' ∧ Blk w' k 52 (stC v u i n true q) := by
  have c3 := h.cell (j := 3) rfl
  have f3 := h.fz 3
  have c4 := h.cell (j := 4) rfl
  have f4 := h.fz 4
  have a0 : w.cell? ⟨a, 0, none⟩ = some (.int .i64 (n : Int)) := ha.cell (j := 0) rfl
  have H := Lib.hid h
  clear h ha
  go_enter Tryz.func58, Tryz.ntmps58
  go_wp2_with fail
  go_end0
  exact ⟨rfl, Only.setCell (S := fun j => j = k) (p := ⟨k, 4, none⟩) (Only.setCell (S := fun j => j = k) (p := ⟨k, 3, none⟩) (Only.refl _ w) rfl _) rfl _, (H.out.set (j := 3) (by simp) (.bool true)).set (j := 4) (by simp) (.int .i64 (n : Int))⟩
set_option maxRecDepth 100000 in
set_option maxHeartbeats 1000000 in
theorem ov5 {B : Nat} {L : List Int} (h : Blk w k 52 (stC v u i s c q)) (hv : ROwn encI 3 1 B w v L) (hB : B ≤ w.heap.size) (hk : k < B) (hl : L.length ≤ 1000000) (n : Nat) (ha : Blk w a 3 #[.int .i64 n]) :
    Calls Tryz.prog 59 #[pAt k, pAt a] w fun e w' => e = .returned (.tuple #[]) ∧ Only (fun j => j = k ∨ B ≤ j) w w' ∧ ∃ v', ROwn encI 3 1 B w' v' (L ++ [(n : Int)]) ∧ Blk w' k 52 (stC v' u i s c q) := by
  obtain ⟨v', w3, happ, hown3, hb3, ho3, _⟩ := append_elem eltI hv hB (n : Int) (by omega) (by omega)
  obtain ⟨A, cap, rfl, _, _, _⟩ := hv.shape eltI
  have HP := Lib.hid happ
  have h3 := h.only ho3 (fun e => by have := hv.base e; omega)
  have HO := Lib.hid (ho3.mono (T := fun j => j = k ∨ B ≤ j) (fun j hj => .inr (hv.base hj)))
  have H3 := Lib.hid h3
  have HW := Lib.hid hown3
  obtain ⟨A3, cap3, rfl, _, _, _⟩ := hown3.shape eltI
  have c0 := h.cell (j := 0) rfl
  have a0 : w.cell? ⟨a, 0, none⟩ = some (.int .i64 (n : Int)) := ha.cell (j := 0) rfl
  have k0 := h3.cell (j := 0) rfl
  have f0 := h3.fz 0
  clear h ha hv hown3 ho3 happ hb3 h3
  generalize (L ++ [(n : Int)]).length = M at *
  go_enter Tryz.func59, Tryz.ntmps59
  go_wp2_with (at_builtin; refine wpList_app_run rfl _ _ _ rfl rfl rfl HP.out ?_)
  go_end0
  exact ⟨rfl, HO.out.setCell (p := ⟨k, 0, none⟩) (.inl rfl) _, _, HW.out.kept (fun g hg => Below.heap_setCell _ _ _ _ (by have := HW.out.base hg; show g ≠ k; omega)), H3.out.set (j := 0) (by simp) (.slice A3 M cap3)⟩
/-- The last element taken off. -/
theorem ROwn.drop1 {B : Nat} {L : List Int} {A : Option Addr} {cap : Nat} (h : ROwn encI 3 1 B w (.slice A L.length cap) L) : ROwn encI 3 1 B w (.slice A (L.length - 1) cap) L.dropLast := by
  have e : L.dropLast.length = L.length - 1 := List.length_dropLast
  rcases h.2 with ⟨hn, h0⟩ | ⟨g, cap', cur, hn, hb, hg, hnc, hcm, hsz, htk⟩
  · have : L = [] := List.eq_nil_of_length_eq_zero h0
    subst this
    rw [hn] at h
    simp only [Value.slice.injEq] at hn
    obtain ⟨rfl, _, rfl⟩ := hn
    exact ROwn.nil _ _
  · simp only [Value.slice.injEq] at hn
    obtain ⟨rfl, _, rfl⟩ := hn
    refine ⟨by rw [cellsL_length (k := 1) (fun _ => rfl)], .inr ⟨g, cap, cur, by rw [e], hb, hg, by rw [e]; omega, hcm, hsz, ?_⟩⟩
    rw [e]
    have h2 := congrArg (List.take ((L.length - 1) * 1)) htk
    rw [List.take_take, Nat.min_eq_left (by omega)] at h2
    rw [h2, ← cellsL_take (enc := encI) (k := 1) (fun _ => rfl) L (L.length - 1) (by omega), List.dropLast_eq_take]
set_option maxRecDepth 100000 in
set_option maxHeartbeats 1000000 in
theorem ov6 {B : Nat} {L : List Int} (h : Blk w k 52 (stC v u i s c q)) (hv : ROwn encI 3 1 B w v L) (hk : k < B) (hl : L.length ≤ 1000000) (hu0 : 0 ≤ u) (hu : u ≤ 1000000) :
    Calls Tryz.prog 60 #[pAt k] w fun e w' => e = .returned (.tuple #[]) ∧ Only (fun j => j = k) w w' ∧ ∃ v', ROwn encI 3 1 B w' v' L.dropLast ∧ Blk w' k 52 (stC v' (if L = [] then u + 1 else u) i s c q) := by
  obtain ⟨A, cap, rfl, hc1, hc2, _⟩ := hv.shape eltI
  have c0 := h.cell (j := 0) rfl
  have f0 := h.fz 0
  have c1 := h.cell (j := 1) rfl
  have f1 := h.fz 1
  have H := Lib.hid h
  have HV := Lib.hid hv
  by_cases hE : L = []
  · rw [if_pos hE]
    have d0 : (0 < L.length) = False := by rw [hE]; simp
    have s1 : IntKind.i64.wrap (u + 1) = u + 1 := IntWalk.i64_in _ (by omega)
    clear h hv
    go_enter Tryz.func60, Tryz.ntmps60
    go_wp2_with fail
    go_end0
    exact ⟨rfl, Only.setCell (S := fun j => j = k) (p := ⟨k, 1, none⟩) (Only.refl _ w) rfl _, _, (by
      have h1 : ROwn encI 3 1 B w (.slice A L.length cap) L.dropLast := by rw [hE]; rw [hE] at HV; exact HV.out
      exact h1.kept (fun g hg => Below.heap_setCell _ _ _ _ (by have := h1.base hg; show g ≠ k; omega))), H.out.set (j := 1) (by simp) (.int .i64 (u + 1))⟩
  · rw [if_neg hE]
    have hp : 0 < L.length := List.length_pos_iff.2 hE
    have d0 : (0 < L.length) = True := eq_true hp
    obtain ⟨m, hm⟩ : ∃ m, L.length - 1 = m := ⟨_, rfl⟩
    have s1 : IntKind.i64.wrap ((L.length : Int) - 1) = (m : Int) := by rw [IntWalk.i64_in _ (by omega)]; omega
    have hmc : m ≤ cap := by omega
    have HM := Lib.hid hm
    clear h hv hm
    go_enter Tryz.func60, Tryz.ntmps60
    go_wp2_with fail
    go_end0
    have h1 := HV.out.drop1
    rw [HM.out] at h1
    exact ⟨rfl, Only.setCell (S := fun j => j = k) (p := ⟨k, 0, none⟩) (Only.refl _ w) rfl _, _, h1.kept (fun g hg => Below.heap_setCell _ _ _ _ (by have := h1.base hg; show g ≠ k; omega)), H.out.set (j := 0) (by simp) (.slice A m cap)⟩
end
end Go.Proofs.YtklaeecegkpgmaaGreatDoor
