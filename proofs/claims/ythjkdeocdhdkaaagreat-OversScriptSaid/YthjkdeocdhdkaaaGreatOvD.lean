/- Overlays: Many, Ends, Move, Add. -/
import Derived.Test.YthjkdeocdhdkaaaGreatOvC
import Derived.Laws.Rows
namespace Go.Proofs.YthjkdeocdhdkaaaGreat
open Go.RowKit
set_option linter.unusedVariables false
set_option linter.unusedSimpArgs false
section
variable {w w' : World} {x : OverE} {L : List OverE} {b : Nat} {pr ev nx : Int} {v : Value} {A : Option Addr}
theorem omany (h : OvsAt w b pr ev v L nx) : Calls Tryz.prog 13 #[.pointer (some ⟨b, 0, none⟩)] w fun e w' => e = .returned (.int .i64 L.length) ∧ w = w' := by
  obtain ⟨A, cp, rfl, hA1, hA2, hAs⟩ := h.own.shape eltT
  have HV := Lib.hid (ovalid h)
  have c2 := h.cell 2 _ rfl
  clear h hAs
  go_enter Tryz.func13, Tryz.ntmps13
  go_wp2_with fail
  refine HV.out.mono ?_
  rintro e w' ⟨rfl, rfl⟩
  go_wp2_with fail
  go_ret
  exact ⟨rfl, rfl⟩
/-- What Ends hands back. -/
def endsD (D : List OverD) (id : Int) : Option OverD := D.find? (fun x => x.id == id)
theorem find_dat (L : List OverE) (id : Int) : endsD (L.map OverE.dat) id = (L.find? (fun x => x.id == id)).map OverE.dat := by
  unfold endsD; rw [List.find?_map]; rfl
theorem find_idx_some {id : Int} (h : L.find? (fun x => x.id == id) = some x) : ∃ k, L.findIdx? (fun x => x.id == id) = some k ∧ L[k]? = some x ∧ x.id = id := by
  have hp := List.find?_some h
  cases hi : L.findIdx? (fun x => x.id == id) with
  | none =>
    rw [List.findIdx?_eq_none_iff] at hi
    have := hi x (List.mem_of_find?_eq_some h)
    rw [this] at hp; cases hp
  | some k =>
    refine ⟨k, rfl, ?_, by simpa using hp⟩
    obtain ⟨hk, hq, hno⟩ := List.findIdx?_eq_some_iff_getElem.1 hi
    have h2 : L.find? (fun x => x.id == id) = some L[k] := by
      rw [List.find?_eq_some_iff_getElem]
      exact ⟨hq, k, hk, rfl, fun j hj => by have := hno j hj; simpa using this⟩
    rw [h] at h2
    rw [List.getElem?_eq_getElem hk]; exact h2.symm
theorem find_idx_none {id : Int} (h : L.find? (fun x => x.id == id) = none) : L.findIdx? (fun x => x.id == id) = none := by
  rw [List.findIdx?_eq_none_iff]
  rw [List.find?_eq_none] at h
  intro y hy
  simpa using h y hy
theorem find_yes' (h : OvsAt w b pr ev v L nx) {id : Int} {x : OverE} (hx : L.find? (fun x => x.id == id) = some x) (hl : L.length ≤ 1000000) :
    Calls Tryz.prog 51 #[.pointer (some ⟨b, 0, none⟩), .int .i64 id] w fun e w' => e = .returned (.tuple #[.pointer (some ⟨x.g, 0, none⟩), .int .i64 0]) ∧ Below w.heap.size w w' := by
  obtain ⟨k, h1, h2, _⟩ := find_idx_some hx
  exact find_yes h h1 h2 hl
theorem find_no' (h : OvsAt w b pr ev v L nx) {id : Int} (hx : L.find? (fun x => x.id == id) = none) (hl : L.length ≤ 1000000) :
    Calls Tryz.prog 51 #[.pointer (some ⟨b, 0, none⟩), .int .i64 id] w fun e w' => e = .returned (.tuple #[.pointer none, .int .i64 8]) ∧ Below w.heap.size w w' := find_no h (find_idx_none hx) hl
def endsV (o : Option OverD) : Value := match o with | some x => .tuple #[.int .i64 x.f, .int .i64 x.t, .bool true] | none => .tuple #[.int .i64 0, .int .i64 0, .bool false]
set_option maxHeartbeats 400000 in
theorem oends (h : OvsAt w b pr ev v L nx) (id : Int) (hl : L.length ≤ 1000000) : Calls Tryz.prog 22 #[.pointer (some ⟨b, 0, none⟩), .int .i64 id] w fun e w' => e = .returned (endsV (endsD (L.map OverE.dat) id)) ∧ Below w.heap.size w w' := by
  rw [find_dat]
  cases hx : L.find? (fun x => x.id == id) with
  | none =>
    have HF := Lib.hid (find_no' h hx hl)
    clear h hx
    go_enter Tryz.func22, Tryz.ntmps22
    go_wp2_with fail
    refine HF.out.mono ?_
    rintro e w1 ⟨rfl, hb⟩
    have HB := Lib.hid hb
    clear hb
    go_wp2_with fail
    go_ret3
    exact ⟨rfl, HB.out⟩
  | some x =>
    have HF := Lib.hid (find_yes' h hx hl)
    have H := Lib.hid (h.ins x (List.mem_of_find?_eq_some hx))
    clear h hx
    go_enter Tryz.func22, Tryz.ntmps22
    go_wp2_with fail
    refine HF.out.mono ?_
    rintro e w1 ⟨rfl, hb⟩
    have hx1 := H.out.up hb
    have c1 := hx1.cell 1 _ rfl
    have c2 := hx1.cell 2 _ rfl
    have HB := Lib.hid hb
    clear hb hx1
    go_wp2_with fail
    go_quiet (fail)
    go_wp2_with fail
    go_ret3
    exact ⟨rfl, have b := HB.out; ⟨b.os, b.tape, b.output, b.size, b.block⟩⟩
def withEnds (x : OverE) (f t : Int) : OverE := ⟨x.id, f, t, x.fr, x.re, x.A, x.c, x.ps, x.g⟩
/-- Two ends stored. -/
theorem OvsAt.ends {k : Nat} (h : OvsAt w b pr ev v L nx) (hx : L[k]? = some x) (f t : Int) : OvsAt ((w.setCell ⟨x.g, 1, none⟩ (.int .i64 f)).setCell ⟨x.g, 2, none⟩ (.int .i64 t)) b pr ev v (L.set k (withEnds x f t)) nx := by
  have hxm := List.mem_of_getElem? hx
  have hin := h.ins x hxm
  have hfx := h.fx x hxm
  have h1 := heap_setCell_same w x.g 1 _ _ (.int .i64 f) hin.blk
  have h2 := heap_setCell_same _ x.g 2 _ _ (.int .i64 t) h1
  have ho : ∀ j, j ≠ x.g → ((w.setCell ⟨x.g, 1, none⟩ (.int .i64 f)).setCell ⟨x.g, 2, none⟩ (.int .i64 t)).heap[j]? = w.heap[j]? := fun j hj => by
    rw [Below.heap_setCell _ _ _ _ hj, Below.heap_setCell _ _ _ _ hj]
  refine h.put (y := withEnds x f t) hx rfl ⟨h2, hin.own.kept fun g hg => ho g (hfx g hg)⟩ hfx (fun j hj => .inl hj) (fun j _ hj => ho j (fun e => hj (e ▸ foot_g x)))
def moveE (D : List OverD) (id f t : Int) : Int := if (endsD D id).isSome then (if rightI f t then 0 else 3) else 8
def mapId (D : List OverD) (id : Int) (u : OverD → OverD) : List OverD := match D.findIdx? (fun x => x.id == id) with | some k => D.modify k u | none => D
theorem dat_set {k : Nat} {y : OverE} {u : OverD → OverD} (hx : L[k]? = some x) (hy : y.dat = u x.dat) : (L.set k y).map OverE.dat = (L.map OverE.dat).modify k u := by
  apply List.ext_getElem?
  intro j
  rw [List.getElem?_map, List.getElem?_modify, List.getElem?_map]
  by_cases e : k = j
  · subst e
    rw [List.getElem?_set_self (List.getElem?_eq_some_iff.1 hx).1, hx]; simp [hy]
  · rw [List.getElem?_set_ne e]; simp [e]
theorem idx_dat (L : List OverE) (id : Int) : (L.map OverE.dat).findIdx? (fun x => x.id == id) = L.findIdx? (fun x => x.id == id) := by
  rw [List.findIdx?_map]; rfl
def moveD (D : List OverD) (id f t : Int) : List OverD := if rightI f t then mapId D id (fun x => ⟨x.id, f, t, x.fr, x.re, x.ps⟩) else D
set_option maxHeartbeats 400000 in
theorem omove (h : OvsAt w b pr ev v L nx) (id f t : Int) (hl : L.length ≤ 1000000) : Calls Tryz.prog 34 #[.pointer (some ⟨b, 0, none⟩), .int .i64 id, .int .i64 f, .int .i64 t] w (OPost w b pr ev v L (.int .i64 (moveE (L.map OverE.dat) id f t)) (moveD (L.map OverE.dat) id f t) nx) := by
  unfold moveE moveD mapId
  rw [find_dat, idx_dat]
  cases hx : L.find? (fun x => x.id == id) with
  | none =>
    have HF := Lib.hid (find_no' h hx hl)
    have H := Lib.hid h
    rw [find_idx_none hx]
    simp only [Option.map_none, Option.isSome_none, Bool.false_eq_true, if_false, ite_self]
    clear h hx
    go_enter Tryz.func34, Tryz.ntmps34
    go_wp2_with fail
    refine HF.out.mono ?_
    rintro e w1 ⟨rfl, hb⟩
    have HB := Lib.hid hb
    clear hb
    go_wp2_with fail
    go_ret
    exact OPost.same H.out HB.out
  | some x =>
    obtain ⟨k, hk1, hk2, hk3⟩ := find_idx_some hx
    rw [hk1]
    have HF := Lib.hid (find_yes' h hx hl)
    have H := Lib.hid h
    have HK := Lib.hid hk2
    have HR := Lib.hid (fun w => right_any f t w)
    simp only [Option.map_some, Option.isSome_some, if_true]
    clear h hx hk1 hk2 hk3
    cases hr : rightI f t with
    | false =>
      simp only [hr] at HR
      simp only [Bool.false_eq_true, if_false]
      clear hr
      go_enter Tryz.func34, Tryz.ntmps34
      go_wp2_with fail
      refine HF.out.mono ?_
      rintro e w1 ⟨rfl, hb⟩
      have HB := Lib.hid hb
      clear hb
      go_wp2_with fail
      refine (HR.out _).mono ?_
      rintro e w' ⟨rfl, rfl⟩
      go_wp2_with fail
      go_ret
      exact OPost.same H.out HB.out
    | true =>
      simp only [hr] at HR
      simp only [if_true]
      clear hr
      go_enter Tryz.func34, Tryz.ntmps34
      go_wp2_with fail
      refine HF.out.mono ?_
      rintro e w1 ⟨rfl, hb⟩
      have h1 := H.out.up hb
      have hxm := List.mem_of_getElem? HK.out
      have c1 := (h1.ins x hxm).cell 1 _ rfl
      have c2 := (h1.ins x hxm).cell 2 _ rfl
      have z1 := (h1.ins x hxm).fz 1
      have z2 := (h1.ins x hxm).fz 2
      have HS := Lib.hid (h1.ends HK.out f t)
      have HB := Lib.hid hb
      have HX := Lib.hid hxm
      clear hb h1 hxm
      go_wp2_with fail
      refine (HR.out _).mono ?_
      rintro e w' ⟨rfl, rfl⟩
      go_wp2_with fail
      go_ret
      exact ⟨v, _, rfl, HS.out, dat_set HK.out rfl, ((Only.of_below HB.out).setCell (p := ⟨x.g, 1, none⟩) (foot_x HX.out (foot_g x)) _).setCell (p := ⟨x.g, 2, none⟩) (foot_x HX.out (foot_g x)) _, foot_set HK.out (fun j hj => .inl hj)⟩
end
end Go.Proofs.YthjkdeocdhdkaaaGreat
