/- layout.Where. -/
import Derived.Test.YtnpamchdflfboaaRwE
namespace Go.Proofs.Ytnpamchdflfboaa
open Go.RowKit
set_option linter.unusedVariables false
set_option linter.unusedSimpArgs false
section
variable {w w' : World} {A A' : Option Addr} {l l' : List RowE}
/-- The first hit, row by row. -/
def scan (f : Int → Bool) : List (List Int) → Nat → Option (Nat × Nat)
  | [], _ => none
  | r :: t, i => match r.findIdx? f with
    | some k => some (i, k)
    | none => scan f t (i + 1)
theorem scan_step {f : Int → Bool} {pl : List (List Int)} {k : Nat} {r : List Int} (h : pl[k]? = some r) : scan f (pl.drop k) k = match r.findIdx? f with
    | some q => some (k, q)
    | none => scan f (pl.drop (k + 1)) (k + 1) := by
  obtain ⟨hk, he⟩ := List.getElem?_eq_some_iff.1 h
  rw [List.drop_eq_getElem_cons hk, he, scan]
theorem scan_lt {f : Int → Bool} : ∀ (pl : List (List Int)) (i : Nat) {x : Nat × Nat}, scan f pl i = some x → x.1 < i + pl.length
  | [], i, x, h => by cases h
  | r :: t, i, x, h => by
    unfold scan at h
    split at h
    · cases h; exact Nat.lt_add_of_pos_right (by simp)
    · have := scan_lt t (i + 1) h; simp only [List.length_cons]; omega
/-- Where a position is: a row and a column. -/
def whereO (pos : Int) (pl : List (List Int)) : Option (Nat × Nat) := match scan (hit false pos) pl 0 with
  | some x => some x
  | none => scan (hit true pos) pl 0
def whereV (o : Option (Nat × Nat)) : Value := match o with
  | some (i, k) => .tuple #[.int .i64 i, .int .i64 k, .bool true]
  | none => .tuple #[.int .i64 0, .int .i64 0, .bool false]
def WherePost (w : World) (pos : Int) (pl : List (List Int)) (e : Ending) (w' : World) : Prop := e = .returned (whereV (whereO pos pl)) ∧ Below w.heap.size w w'
theorem SameL.ps (h : SameL l l') : l.map (·.ps) = l'.map (·.ps) := by
  apply List.ext_getElem?
  intro k
  rw [List.getElem?_map, List.getElem?_map]
  cases ha : l[k]? with
  | none =>
    have : l'[k]? = none := by rw [List.getElem?_eq_none_iff] at ha ⊢; rw [← h.len]; exact ha
    rw [this]
  | some e =>
    have hk : k < l'.length := by rw [← h.len]; exact (List.getElem?_eq_some_iff.1 ha).1
    have hb : l'[k]? = some l'[k] := List.getElem?_eq_getElem hk
    rw [hb]
    simp only [Option.map_some]
    rw [(h.at_ k _ _ ha hb).ps]
set_option maxRecDepth 100000 in
set_option maxHeartbeats 8000000 in
theorem where_any (c : Nat) (pos : Int) (h : RowsAt w A l) (hl : l.length ≤ 1000000) (hb : ∀ e ∈ l, e.ps.length ≤ 1000000) :
    Calls Try.prog 38 #[.slice A l.length c, .int .i64 pos] w (WherePost w pos (l.map (·.ps))) := by
  have HLB := Lib.hid hb
  have HH := Lib.hid h
  have hp0 := row_cells (w.alloc (.cells #[.int .i64 pos] 3)) w.heap.size _ _ (MapKept.heap_alloc w _).1 0
  have HP0 : Hid ((w.alloc (.cells #[.int .i64 pos] 3)).cell? ⟨w.heap.size, 0, none⟩ = some (.int .i64 pos)) := Lib.hid hp0.1
  have HB00 := Lib.hid (below1 w (.cells #[.int .i64 pos] 3))
  have HS0 : Hid (w.heap.size < (w.alloc (.cells #[.int .i64 pos] 3)).heap.size) := Lib.hid (by simp)
  obtain ⟨bp, hbp⟩ : ∃ bp, w.heap.size = bp := ⟨_, rfl⟩
  have i0 : ∀ w, (Instr.index 62 (.agg #[.func (.func 45) #[] #[.pointer (some ⟨bp, 0, none⟩)], .func (.func 46) #[] #[.pointer (some ⟨bp, 0, none⟩)]]) (.int .i64 0)).run Try.prog w = .ok (.func (.func 45) #[] #[.pointer (some ⟨bp, 0, none⟩)]) w := fun _ => by kernel_rfl
  have i1 : ∀ w, (Instr.index 62 (.agg #[.func (.func 45) #[] #[.pointer (some ⟨bp, 0, none⟩)], .func (.func 46) #[] #[.pointer (some ⟨bp, 0, none⟩)]]) (.int .i64 1)).run Try.prog w = .ok (.func (.func 46) #[] #[.pointer (some ⟨bp, 0, none⟩)]) w := fun _ => by kernel_rfl
  clear h hb hp0
  go_enter Try.func38, Try.ntmps38
  go_wp2_with fail
  rw [hbp] at HP0
  have HS1 : Hid (bp < (w.alloc (.cells #[.int .i64 pos] 3)).heap.size) := Lib.hid (by have := HS0.out; omega)
  clear HS0
  obtain ⟨W0, hW0⟩ : ∃ W0, w.alloc (.cells #[.int .i64 pos] 3) = W0 := ⟨_, rfl⟩
  rw [hW0] at HP0 HS1 HB00 ⊢
  clear hW0
  go_loopw [15] (fun vj wr => ∃ j : Nat, j ≤ 2 ∧ vj = .int .i64 j ∧ (1 ≤ j → scan (hit false pos) (l.map (·.ps)) 0 = none) ∧ (2 ≤ j → scan (hit true pos) (l.map (·.ps)) 0 = none) ∧ Below W0.heap.size W0 wr) (fun vj _ => 2 - (intOf vj).toNat)
  case atStart => exact ⟨0, by omega, rfl, by omega, by omega, Below.refl _ _⟩
  case round =>
    obtain ⟨j, hj, rfl, hj1, hj2, hbel⟩ := hrel
    have HJ1 := Lib.hid hj1
    have HJ2 := Lib.hid hj2
    clear hj1 hj2
    have HBe := Lib.hid hbel
    obtain rfl | rfl | rfl : j = 0 ∨ j = 1 ∨ j = 2 := by omega
    · go_wp2_with fail
      have hW1e : ∃ W1, wr.alloc (.cells #[.func (.func 45) #[] #[.pointer (some ⟨bp, 0, none⟩)]] 50) = W1 := ⟨_, rfl⟩
      obtain ⟨W1, hW1⟩ := hW1e
      have hb1 : Below wr.heap.size wr W1 := hW1 ▸ below1 wr _
      have hm1 : W1.cell? ⟨wr.heap.size, 0, none⟩ = some (cmpV false bp) := hW1 ▸ (row_cells _ wr.heap.size _ _ (MapKept.heap_alloc wr _).1 0).1
      have hs1 : wr.heap.size < W1.heap.size := by rw [← hW1]; simp
      have HB0 : Hid (Below w.heap.size w W1) := Lib.hid (up2 (up2 HB00.out hbel) hb1)
      have HP1 : Hid (bp < W1.heap.size ∧ W1.cell? ⟨bp, 0, none⟩ = some (.int .i64 pos)) := Lib.hid ⟨by have := HS1.out; have := hbel.size; omega, ((up2 hbel hb1).cell (p := ⟨bp, 0, none⟩) HS1.out).trans HP0.out⟩
      have HM1 : Hid (wr.heap.size < W1.heap.size ∧ W1.cell? ⟨wr.heap.size, 0, none⟩ = some (cmpV false bp)) := Lib.hid ⟨hs1, hm1⟩
      have HW1 : Hid (RowsAt W1 A l) := Lib.hid (HH.out.up HB0.out)
      rw [hW1]
      obtain ⟨bm, hbm⟩ : ∃ bm, wr.heap.size = bm := ⟨_, rfl⟩
      rw [hbm] at HM1 ⊢
      have HBM := Lib.hid hbm
      have hbW : Below W0.heap.size W0 W1 := up2 hbel hb1
      clear hW1 hb1 hm1 hs1 hbm hbel
      go_loopw [20] (fun vi wr => ∃ k : Nat, k ≤ l.length ∧ vi = .int .i64 k ∧ scan (hit false pos) (l.map (·.ps)) 0 = scan (hit false pos) ((l.map (·.ps)).drop k) k ∧ Below W1.heap.size W1 wr) (fun vi _ => l.length - (intOf vi).toNat)
      case atStart => exact ⟨0, by omega, rfl, rfl, Below.refl _ _⟩
      case round =>
        obtain ⟨k, hk, rfl, hsc, hbe⟩ := hrel
        by_cases hlt : k < l.length
        · obtain ⟨e, hx⟩ : ∃ x, l[k]? = some x := ⟨_, List.getElem?_eq_getElem hlt⟩
          have hwr := (HW1.out.up hbe)
          have hI := hwr.2 e (List.mem_of_getElem? hx)
          have hb2 := HLB.out e (List.mem_of_getElem? hx)
          obtain ⟨g, o, hAe, hg, hcg⟩ := hwr.1.at_ eltR hx
          have hpl : (l.map (·.ps))[k]? = some e.ps := by rw [List.getElem?_map, hx]; rfl
          have hst := scan_step (f := hit false pos) hpl
          have i2 := hI.i2
          obtain ⟨A1, c1, cs, A2, c2, ps, fr, to, co⟩ := e
          dsimp only at hb2 hst i2
          subst hAe
          have k0 : wr.cell? ⟨g, o + k * 5, none⟩ = some (.slice A1 cs.length c1) := hcg 0 _ rfl
          have k1 : wr.cell? ⟨g, o + k * 5 + 1, none⟩ = some (.slice A2 ps.length c2) := hcg 1 _ rfl
          have k2 : wr.cell? ⟨g, o + k * 5 + 2, none⟩ = some (.int .i64 fr) := hcg 2 _ rfl
          have k3 : wr.cell? ⟨g, o + k * 5 + 3, none⟩ = some (.int .i64 to) := hcg 3 _ rfl
          have k4 : wr.cell? ⟨g, o + k * 5 + 4, none⟩ = some (.bool co) := hcg 4 _ rfl
          have hlt' : (k : Int) < l.length := by omega
          have hidx : ∀ w2, Below wr.heap.size wr w2 → Calls Try.prog 47 #[.slice A2 ps.length c2, .func (.func 48) #[] #[.pointer (some ⟨bm, 0, none⟩)]] w2 fun e w' => e = .returned (.int .i64 (idxI (hit false pos) ps)) ∧ w2 = w' := fun w2 hb =>
            idx_any false c2 pos bp bm (i2.up hb) hb2 ((up2 hbe hb).cell (p := ⟨bp, 0, none⟩) HP1.out.1 |>.trans HP1.out.2) ((up2 hbe hb).cell (p := ⟨bm, 0, none⟩) HM1.out.1 |>.trans HM1.out.2)
          have HIDX := Lib.hid hidx
          have HSC := Lib.hid hsc
          have HST := Lib.hid hst
          clear hidx hsc hst i2 hI hwr hx hcg hpl
          go_wp2_with fail
          refine (HIDX.out _ (below1 wr _)).mono ?_
          rintro e w' ⟨rfl, rfl⟩
          unfold idxI
          cases hq : ps.findIdx? (hit false pos) with
          | some q =>
            have HQ := Lib.hid hq
            have hq0 : (0 : Int) ≤ (q : Int) := by omega
            clear hq
            dsimp only
            go_wp2_with fail
            go_ret3
            exact ⟨by unfold whereO; rw [HSC.out, HST.out, HQ.out]; rfl, up2 (up2 HB0.out hbe) (below1 _ _)⟩
          | none =>
            have HQ := Lib.hid hq
            clear hq
            dsimp only
            go_wp2_with fail
            go_roundw
            case rel => first | exact ⟨k + 1, by omega, by go_num, by rw [HSC.out, HST.out, HQ.out], up2 hbe (below1 _ _)⟩ | ((repeat apply Exists.intro); exact ⟨⟨k + 1, by omega, by go_num, by rw [HSC.out, HST.out, HQ.out], up2 hbe (below1 _ _)⟩, rfl⟩)
            case measure => simp [intOf]; omega
        · have hkn : k = l.length := by omega
          subst hkn
          have hnil : scan (hit false pos) (l.map (·.ps)) 0 = none := by rw [hsc, List.drop_of_length_le (by simp)]; rfl
          have HN := Lib.hid hnil
          clear hnil hsc
          go_wp2_with fail
          go_roundw
          case rel => first | exact ⟨1, by omega, by go_num, fun _ => HN.out, by omega, up2 hbW hbe⟩ | ((repeat apply Exists.intro); exact ⟨⟨1, by omega, by go_num, fun _ => HN.out, by omega, up2 hbW hbe⟩, rfl⟩)
          case measure => simp [intOf]
    · go_wp2_with fail
      have hW1e : ∃ W1, wr.alloc (.cells #[.func (.func 46) #[] #[.pointer (some ⟨bp, 0, none⟩)]] 50) = W1 := ⟨_, rfl⟩
      obtain ⟨W1, hW1⟩ := hW1e
      have hb1 : Below wr.heap.size wr W1 := hW1 ▸ below1 wr _
      have hm1 : W1.cell? ⟨wr.heap.size, 0, none⟩ = some (cmpV true bp) := hW1 ▸ (row_cells _ wr.heap.size _ _ (MapKept.heap_alloc wr _).1 0).1
      have hs1 : wr.heap.size < W1.heap.size := by rw [← hW1]; simp
      have HB0 : Hid (Below w.heap.size w W1) := Lib.hid (up2 (up2 HB00.out hbel) hb1)
      have HP1 : Hid (bp < W1.heap.size ∧ W1.cell? ⟨bp, 0, none⟩ = some (.int .i64 pos)) := Lib.hid ⟨by have := HS1.out; have := hbel.size; omega, ((up2 hbel hb1).cell (p := ⟨bp, 0, none⟩) HS1.out).trans HP0.out⟩
      have HM1 : Hid (wr.heap.size < W1.heap.size ∧ W1.cell? ⟨wr.heap.size, 0, none⟩ = some (cmpV true bp)) := Lib.hid ⟨hs1, hm1⟩
      have HW1 : Hid (RowsAt W1 A l) := Lib.hid (HH.out.up HB0.out)
      rw [hW1]
      obtain ⟨bm, hbm⟩ : ∃ bm, wr.heap.size = bm := ⟨_, rfl⟩
      rw [hbm] at HM1 ⊢
      have HBM := Lib.hid hbm
      have hbW : Below W0.heap.size W0 W1 := up2 hbel hb1
      clear hW1 hb1 hm1 hs1 hbm hbel
      go_loopw [20] (fun vi wr => ∃ k : Nat, k ≤ l.length ∧ vi = .int .i64 k ∧ scan (hit true pos) (l.map (·.ps)) 0 = scan (hit true pos) ((l.map (·.ps)).drop k) k ∧ Below W1.heap.size W1 wr) (fun vi _ => l.length - (intOf vi).toNat)
      case atStart => exact ⟨0, by omega, rfl, rfl, Below.refl _ _⟩
      case round =>
        obtain ⟨k, hk, rfl, hsc, hbe⟩ := hrel
        by_cases hlt : k < l.length
        · obtain ⟨e, hx⟩ : ∃ x, l[k]? = some x := ⟨_, List.getElem?_eq_getElem hlt⟩
          have hwr := (HW1.out.up hbe)
          have hI := hwr.2 e (List.mem_of_getElem? hx)
          have hb2 := HLB.out e (List.mem_of_getElem? hx)
          obtain ⟨g, o, hAe, hg, hcg⟩ := hwr.1.at_ eltR hx
          have hpl : (l.map (·.ps))[k]? = some e.ps := by rw [List.getElem?_map, hx]; rfl
          have hst := scan_step (f := hit true pos) hpl
          have i2 := hI.i2
          obtain ⟨A1, c1, cs, A2, c2, ps, fr, to, co⟩ := e
          dsimp only at hb2 hst i2
          subst hAe
          have k0 : wr.cell? ⟨g, o + k * 5, none⟩ = some (.slice A1 cs.length c1) := hcg 0 _ rfl
          have k1 : wr.cell? ⟨g, o + k * 5 + 1, none⟩ = some (.slice A2 ps.length c2) := hcg 1 _ rfl
          have k2 : wr.cell? ⟨g, o + k * 5 + 2, none⟩ = some (.int .i64 fr) := hcg 2 _ rfl
          have k3 : wr.cell? ⟨g, o + k * 5 + 3, none⟩ = some (.int .i64 to) := hcg 3 _ rfl
          have k4 : wr.cell? ⟨g, o + k * 5 + 4, none⟩ = some (.bool co) := hcg 4 _ rfl
          have hlt' : (k : Int) < l.length := by omega
          have hidx : ∀ w2, Below wr.heap.size wr w2 → Calls Try.prog 47 #[.slice A2 ps.length c2, .func (.func 48) #[] #[.pointer (some ⟨bm, 0, none⟩)]] w2 fun e w' => e = .returned (.int .i64 (idxI (hit true pos) ps)) ∧ w2 = w' := fun w2 hb =>
            idx_any true c2 pos bp bm (i2.up hb) hb2 ((up2 hbe hb).cell (p := ⟨bp, 0, none⟩) HP1.out.1 |>.trans HP1.out.2) ((up2 hbe hb).cell (p := ⟨bm, 0, none⟩) HM1.out.1 |>.trans HM1.out.2)
          have HIDX := Lib.hid hidx
          have HSC := Lib.hid hsc
          have HST := Lib.hid hst
          clear hidx hsc hst i2 hI hwr hx hcg hpl
          go_wp2_with fail
          refine (HIDX.out _ (below1 wr _)).mono ?_
          rintro e w' ⟨rfl, rfl⟩
          unfold idxI
          cases hq : ps.findIdx? (hit true pos) with
          | some q =>
            have HQ := Lib.hid hq
            have hq0 : (0 : Int) ≤ (q : Int) := by omega
            clear hq
            dsimp only
            go_wp2_with fail
            go_ret3
            exact ⟨by unfold whereO; rw [HJ1.out (by omega)]; dsimp only; rw [HSC.out, HST.out, HQ.out]; rfl, up2 (up2 HB0.out hbe) (below1 _ _)⟩
          | none =>
            have HQ := Lib.hid hq
            clear hq
            dsimp only
            go_wp2_with fail
            go_roundw
            case rel => first | exact ⟨k + 1, by omega, by go_num, by rw [HSC.out, HST.out, HQ.out], up2 hbe (below1 _ _)⟩ | ((repeat apply Exists.intro); exact ⟨⟨k + 1, by omega, by go_num, by rw [HSC.out, HST.out, HQ.out], up2 hbe (below1 _ _)⟩, rfl⟩)
            case measure => simp [intOf]; omega
        · have hkn : k = l.length := by omega
          subst hkn
          have hnil : scan (hit true pos) (l.map (·.ps)) 0 = none := by rw [hsc, List.drop_of_length_le (by simp)]; rfl
          have HN := Lib.hid hnil
          clear hnil hsc
          go_wp2_with fail
          go_roundw
          case rel => first | exact ⟨2, by omega, by go_num, fun _ => HJ1.out (by omega), fun _ => HN.out, up2 hbW hbe⟩ | ((repeat apply Exists.intro); exact ⟨⟨2, by omega, by go_num, fun _ => HJ1.out (by omega), fun _ => HN.out, up2 hbW hbe⟩, rfl⟩)
          case measure => simp [intOf]
    · go_wp2_with fail
      go_ret3
      exact ⟨by unfold whereO; rw [HJ1.out (by omega)]; dsimp only; rw [HJ2.out (by omega)]; rfl, up2 HB00.out hbel⟩
end
end Go.Proofs.Ytnpamchdflfboaa
