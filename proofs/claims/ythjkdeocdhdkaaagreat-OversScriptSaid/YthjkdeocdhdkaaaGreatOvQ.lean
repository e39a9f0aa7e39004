/- Overlays: Add and Inserted whole. -/
import Derived.Test.YthjkdeocdhdkaaaGreatOvP
namespace Go.Proofs.YthjkdeocdhdkaaaGreat
open Go.RowKit
set_option linter.unusedVariables false
set_option linter.unusedSimpArgs false
section
variable {w w' : World} {x : OverE} {L L' M : List OverE} {b : Nat} {pr ev nx : Int} {v v' : Value} {A : Option Addr}
def addE (D : List OverD) (f t : Int) : Int := if rightI f t then (if D.length < 1024 then 0 else 7) else 3
def addR (D : List OverD) (nx f t : Int) : Int := if addE D f t = 0 then nx else 0
def addD (D : List OverD) (nx f t : Int) (fr re : Bool) : List OverD := if addE D f t = 0 then D ++ [newD nx f t fr re] else D
def addN (D : List OverD) (nx f t : Int) : Int := if addE D f t = 0 then nx + 1 else nx
set_option maxHeartbeats 1000000 in
theorem oadd_range (h : OvsAt w b pr ev v L nx) (f t : Int) (fr re : Bool) (hr : rightI f t = false) :
    Calls Tryz.prog 27 #[.pointer (some ⟨b, 0, none⟩), .int .i64 f, .int .i64 t, .bool fr, .bool re] w (OPost w b pr ev v L (.tuple #[.int .i64 0, .int .i64 3]) (L.map OverE.dat) nx) := by
  have HV := Lib.hid (ovalid h)
  have HR := Lib.hid (hr ▸ right_any f t w)
  have H := Lib.hid h
  clear h hr
  go_enter Tryz.func27, Tryz.ntmps27
  go_wp2_with fail
  refine HV.out.mono ?_
  rintro e w0 ⟨rfl, rfl⟩
  go_wp2_with fail
  refine HR.out.mono ?_
  rintro e w0 ⟨rfl, rfl⟩
  go_wp2_with fail
  go_ret2
  exact OPost.same H.out (Below.refl _ _)
set_option maxHeartbeats 1000000 in
theorem oadd_full (h : OvsAt w b pr ev v L nx) (f t : Int) (fr re : Bool) (hr : rightI f t = true) (hl : 1024 ≤ L.length) :
    Calls Tryz.prog 27 #[.pointer (some ⟨b, 0, none⟩), .int .i64 f, .int .i64 t, .bool fr, .bool re] w (OPost w b pr ev v L (.tuple #[.int .i64 0, .int .i64 7]) (L.map OverE.dat) nx) := by
  obtain ⟨A, cp, rfl, hA1, hA2, hAs⟩ := h.own.shape eltT
  have HV := Lib.hid (ovalid h)
  have HR := Lib.hid (hr ▸ right_any f t w)
  have c2 := h.cell 2 _ rfl
  have H := Lib.hid h
  have hl' : (1024 : Int) ≤ (L.length : Int) := by omega
  clear h hr hAs hl
  go_enter Tryz.func27, Tryz.ntmps27
  go_wp2_with fail
  refine HV.out.mono ?_
  rintro e w0 ⟨rfl, rfl⟩
  go_wp2_with fail
  refine HR.out.mono ?_
  rintro e w0 ⟨rfl, rfl⟩
  go_wp2_with fail
  go_ret2
  exact OPost.same H.out (Below.refl _ _)
theorem oadd (h : OvsAt w b pr ev v L nx) (f t : Int) (fr re : Bool) (hn0 : 0 ≤ nx) (hn1 : nx ≤ 1000000000) :
    Calls Tryz.prog 27 #[.pointer (some ⟨b, 0, none⟩), .int .i64 f, .int .i64 t, .bool fr, .bool re] w (OPost w b pr ev v L (.tuple #[.int .i64 (addR (L.map OverE.dat) nx f t), .int .i64 (addE (L.map OverE.dat) f t)]) (addD (L.map OverE.dat) nx f t fr re) (addN (L.map OverE.dat) nx f t)) := by
  unfold addR addD addN addE
  rw [List.length_map]
  cases hr : rightI f t with
  | false => exact oadd_range h f t fr re hr
  | true =>
    by_cases hl : L.length < 1024
    · simp only [hl, if_true]; exact oadd_ok h f t fr re hr hl hn0 hn1
    · simp only [hl, if_true, if_false]; exact oadd_full h f t fr re hr (by omega)
set_option maxHeartbeats 1000000 in
theorem oins_place (h : OvsAt w b pr ev v L nx) (at_ n : Int) (hpl : placeI at_ = false) :
    Calls Tryz.prog 36 #[.pointer (some ⟨b, 0, none⟩), .int .i64 at_, .int .i64 n] w (OPost w b pr ev v L (.int .i64 3) (L.map OverE.dat) nx) := by
  have HV := Lib.hid (ovalid h)
  have HPL := Lib.hid (hpl ▸ place_any at_ w)
  have H := Lib.hid h
  clear h hpl
  go_enter Tryz.func36, Tryz.ntmps36
  go_wp2_with fail
  refine HV.out.mono ?_
  rintro e w0 ⟨rfl, rfl⟩
  go_wp2_with fail
  refine HPL.out.mono ?_
  rintro e w0 ⟨rfl, rfl⟩
  go_wp2_with fail
  go_ret
  exact OPost.same H.out (Below.refl _ _)
set_option maxHeartbeats 1000000 in
theorem oins_arg (h : OvsAt w b pr ev v L nx) (at_ n : Int) (hpl : placeI at_ = true) (hn : n < 0 ∨ 65536 < n) :
    Calls Tryz.prog 36 #[.pointer (some ⟨b, 0, none⟩), .int .i64 at_, .int .i64 n] w (OPost w b pr ev v L (.int .i64 2) (L.map OverE.dat) nx) := by
  have HV := Lib.hid (ovalid h)
  have HPL := Lib.hid (hpl ▸ place_any at_ w)
  have H := Lib.hid h
  clear h hpl
  by_cases h0 : n < 0
  · have d1 : decide (n < (0 : Int)) = true := decide_eq_true h0
    clear h0 hn
    go_enter Tryz.func36, Tryz.ntmps36
    go_wp2_with fail
    refine HV.out.mono ?_
    rintro e w0 ⟨rfl, rfl⟩
    go_wp2_with fail
    refine HPL.out.mono ?_
    rintro e w0 ⟨rfl, rfl⟩
    go_wp2_with fail
    go_ret
    exact OPost.same H.out (Below.refl _ _)
  · have d1 : decide (n < (0 : Int)) = false := decide_eq_false h0
    have d2 : decide ((65536 : Int) < n) = true := decide_eq_true (by omega)
    clear h0 hn
    go_enter Tryz.func36, Tryz.ntmps36
    go_wp2_with fail
    refine HV.out.mono ?_
    rintro e w0 ⟨rfl, rfl⟩
    go_wp2_with fail
    refine HPL.out.mono ?_
    rintro e w0 ⟨rfl, rfl⟩
    go_wp2_with fail
    go_ret
    exact OPost.same H.out (Below.refl _ _)
theorem oinserted (h : OvsAt w b pr ev v L nx) (at_ n : Int) (hp : ∀ x ∈ L, 1 ≤ x.f ∧ x.f ≤ 1099511627776 ∧ 1 ≤ x.t ∧ x.t ≤ 1099511627776) (hl : L.length ≤ 1000000) :
    Calls Tryz.prog 36 #[.pointer (some ⟨b, 0, none⟩), .int .i64 at_, .int .i64 n] w (OPost w b pr ev v L (.int .i64 (insE (L.map OverE.dat) at_ n)) (insertedD (L.map OverE.dat) at_ n) nx) := by
  unfold insertedD insE
  cases hpl : placeI at_ with
  | false => exact oins_place h at_ n hpl
  | true =>
    by_cases hn : n < 0 ∨ 65536 < n
    · simp only [hn, if_true]; exact oins_arg h at_ n hpl hn
    · simp only [hn, if_true, if_false]
      have := oins_main h at_ n hpl (by omega) (by omega) hp hl
      cases hok : insOk (L.map OverE.dat) at_ n with
      | true => rw [hok] at this; exact this
      | false => rw [hok] at this; exact this
end
end Go.Proofs.YthjkdeocdhdkaaaGreat
