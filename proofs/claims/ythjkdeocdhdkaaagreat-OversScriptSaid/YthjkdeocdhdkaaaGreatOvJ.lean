/- Overlays: Get; slices.Clone at properties; copied. -/
import Derived.Test.YthjkdeocdhdkaaaGreatOvI
namespace Go.Proofs.YthjkdeocdhdkaaaGreat
open Go.RowKit
set_option linter.unusedVariables false
set_option linter.unusedSimpArgs false
section
variable {w w' : World} {x : OverE} {L L' : List OverE} {b : Nat} {pr ev nx : Int} {v v' : Value} {A : Option Addr} {ps : List PropE}
def getD (D : List OverD) (id nm : Int) : Option (Int × Int) := match endsD D id with | some x => valP x.ps nm | none => none
set_option maxRecDepth 100000 in
set_option maxHeartbeats 1000000 in
theorem oget (h : OvsAt w b pr ev v L nx) (hs : ∀ x ∈ L, SortedP x.ps ∧ x.ps.length ≤ 1000000) (id nm : Int) (hl : L.length ≤ 1000000) :
    Calls Tryz.prog 20 #[.pointer (some ⟨b, 0, none⟩), .int .i64 id, .int .i64 nm] w fun e w' => e = .returned (wordV (getD (L.map OverE.dat) id nm)) ∧ Below w.heap.size w w' := by
  unfold getD
  rw [find_dat]
  cases hx : L.find? (fun x => x.id == id) with
  | none =>
    have HF := Lib.hid (find_no' (h.up (below1 w (.cells #[.int .i64 0, .int .i64 0] 29))) hx hl)
    clear h hx hs
    go_enter Tryz.func20, Tryz.ntmps20
    go_wp2_with fail
    refine HF.out.mono ?_
    rintro e w1 ⟨rfl, hb⟩
    have k0 := hb.cell (p := ⟨w.heap.size, 0, none⟩) (by simp)
    have k1 := hb.cell (p := ⟨w.heap.size, 1, none⟩) (by simp)
    have kf := fun o => hb.frozen (p := ⟨w.heap.size, o, none⟩) (by simp)
    simp at k0 k1 kf
    have HB := Lib.hid (up2 (below1 _ _) hb)
    clear hb
    go_wp2_with fail
    refine bodyPost_ret (v := .tuple #[.agg #[.int .i64 0, .int .i64 0], .bool false]) (by simp [results, Tryz.f20, go_sem, k0, k1]) rfl ⟨rfl, ?_⟩
    exact ((HB.out.setCell (p := ⟨w.heap.size, 0, none⟩) (Nat.le_refl _) _).setCell (p := ⟨w.heap.size, 1, none⟩) (Nat.le_refl _) _)
  | some x =>
    have hxm := List.mem_of_find?_eq_some hx
    have HF := Lib.hid (find_yes' (h.up (below1 w (.cells #[.int .i64 0, .int .i64 0] 29))) hx hl)
    have HVA := Lib.hid (fun (w1 : World) (hb : Below w.heap.size w w1) => value_any ((h.ins x hxm).up hb) (hs x hxm).1 nm (hs x hxm).2)
    show Calls _ _ _ _ fun e w' => e = .returned (wordV (valP x.ps nm)) ∧ _
    generalize valP x.ps nm = o at *
    clear h hx hs hxm
    rcases o with _ | ⟨ok, on⟩
    all_goals
      go_enter Tryz.func20, Tryz.ntmps20
      go_wp2_with fail
      refine HF.out.mono ?_
      rintro e w1 ⟨rfl, hb⟩
      have HB1 := Lib.hid (up2 (below1 _ _) hb)
      have k0 := hb.cell (p := ⟨w.heap.size, 0, none⟩) (by simp)
      have k1 := hb.cell (p := ⟨w.heap.size, 1, none⟩) (by simp)
      have kf := fun o => hb.frozen (p := ⟨w.heap.size, o, none⟩) (by simp)
      have hz := hb.size
      simp at k0 k1 kf hz
      clear hb
      go_wp2_with fail
      refine (HVA.out _ HB1.out).mono ?_
      rintro e w2 ⟨rfl, hb2⟩
      have m0 := (hb2.cell (p := ⟨w.heap.size, 0, none⟩) (show w.heap.size < w1.heap.size by omega)).trans k0
      have m1 := (hb2.cell (p := ⟨w.heap.size, 1, none⟩) (show w.heap.size < w1.heap.size by omega)).trans k1
      have mf := fun o => (hb2.frozen (p := ⟨w.heap.size, o, none⟩) (show w.heap.size < w1.heap.size by omega)).trans (kf o)
      have HB := Lib.hid (up2 HB1.out hb2)
      clear hb2 k0 k1 kf
      simp only [wordV]
      go_wp2_with fail
      first
        | refine bodyPost_ret (v := .tuple #[.agg #[.int .i64 ok, .int .i64 on], .bool true]) (by simp [results, Tryz.f20, go_sem, m0, m1]) rfl ⟨rfl, ?_⟩
        | refine bodyPost_ret (v := .tuple #[.agg #[.int .i64 0, .int .i64 0], .bool false]) (by simp [results, Tryz.f20, go_sem, m0, m1]) rfl ⟨rfl, ?_⟩
      exact ((HB.out.setCell (p := ⟨w.heap.size, 0, none⟩) (Nat.le_refl _) _).setCell (p := ⟨w.heap.size, 1, none⟩) (Nat.le_refl _) _)
def PsPost (w : World) (ps : List PropE) (e : Ending) (w' : World) : Prop := ∃ v, e = .returned v ∧ ROwn encP 71 3 w.heap.size w' v ps ∧ Below w.heap.size w w'
set_option maxRecDepth 100000 in
set_option maxHeartbeats 1000000 in
theorem cloneP (h : RSl encP w A ps) (c : Nat) (hl : ps.length ≤ 1000000) : Calls Tryz.prog 70 #[.slice A ps.length c] w (PsPost w ps) := by
  have h0 := ROwn.empty (enc := encP) (E := 71) (k := 3) w.heap.size w (Nat.le_refl _)
  obtain ⟨v', w', happ, hown', hg, _⟩ := append_run eltP h0 (by simp) (h.up (below1 _ _)) c (by simp; omega) (by omega)
  have HP := Lib.hid happ
  clear happ
  rcases A with _ | a
  · have hL : ps = [] := by
      rcases Nat.eq_zero_or_pos ps.length with h1 | h1
      · exact List.eq_nil_of_length_eq_zero h1
      · obtain ⟨g, o, e, _⟩ := h h1; cases e
    subst hL
    have hnil := fun w => Lib.run_eql_slice_nil (P := Tryz.prog) w 67 71 none 0 c 0 0 Tryz.underlying67
    go_enter Tryz.func70, Tryz.ntmps70
    go_wp2_with fail
    go_ret
    exact ⟨_, rfl, ROwn.nil _ _, Below.refl _ _⟩
  · have hnil := fun w => Lib.run_eql_slice_nil (P := Tryz.prog) w 67 71 (some a) ps.length c 0 0 Tryz.underlying67
    go_enter Tryz.func70, Tryz.ntmps70
    go_wp2_with (at_builtin; refine wpList_app_run rfl _ _ _ rfl rfl rfl HP.out ?_)
    go_ret
    exact ⟨_, rfl, by simpa using hown', (below1 _ _).grown hg (by simp) (fun k hk => h0.base hk)⟩
end
end Go.Proofs.YthjkdeocdhdkaaaGreat
