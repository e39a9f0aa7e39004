/- Overlays: Inserted. -/
import Derived.Test.YthjkdeocdhdkaaaGreatOvO
namespace Go.Proofs.YthjkdeocdhdkaaaGreat
open Go.RowKit
set_option linter.unusedVariables false
set_option linter.unusedSimpArgs false
section
variable {w w' : World} {x : OverE} {L L' M : List OverE} {b : Nat} {pr ev nx : Int} {v v' : Value} {A : Option Addr}
def insD (at_ n : Int) (x : OverD) : OverD := ⟨x.id, insF at_ n x.f x.t x.fr x.re, insT at_ n x.f x.t x.fr x.re, x.fr, x.re, x.ps⟩
def insOk (D : List OverD) (at_ n : Int) : Bool := D.all (fun x => placeI (insT at_ n x.f x.t x.fr x.re))
def insE (D : List OverD) (at_ n : Int) : Int := if placeI at_ then (if n < 0 ∨ 65536 < n then 2 else if insOk D at_ n then 0 else 3) else 3
def insertedD (D : List OverD) (at_ n : Int) : List OverD := if insE D at_ n = 0 then D.map (insD at_ n) else D
theorem foot_map (u : OverE → Int × Int) : footS b v (L.map (endsX u)) = footS b v L := by
  have := movedK_foot u L L.length
  rw [movedK_all] at this
  unfold footS; rw [this]
set_option maxRecDepth 100000 in
set_option maxHeartbeats 1000000 in
theorem oins_main (h : OvsAt w b pr ev v L nx) (at_ n : Int) (hpl : placeI at_ = true) (hn0 : 0 ≤ n) (hn1 : n ≤ 65536) (hp : ∀ x ∈ L, 1 ≤ x.f ∧ x.f ≤ 1099511627776 ∧ 1 ≤ x.t ∧ x.t ≤ 1099511627776) (hl : L.length ≤ 1000000) :
    Calls Tryz.prog 36 #[.pointer (some ⟨b, 0, none⟩), .int .i64 at_, .int .i64 n] w (OPost w b pr ev v L (.int .i64 (if insOk (L.map OverE.dat) at_ n then 0 else 3)) (if insOk (L.map OverE.dat) at_ n then (L.map OverE.dat).map (insD at_ n) else L.map OverE.dat) nx) := by
  obtain ⟨er, her⟩ : ∃ er : Int, er = (if insOk (L.map OverE.dat) at_ n then 0 else 3) := ⟨_, rfl⟩
  obtain ⟨Dn, hDn⟩ : ∃ Dn, Dn = (if insOk (L.map OverE.dat) at_ n then (L.map OverE.dat).map (insD at_ n) else L.map OverE.dat) := ⟨_, rfl⟩
  rw [← her, ← hDn]
  have HER := Lib.hid her
  have HDN := Lib.hid hDn
  clear her hDn
  obtain ⟨A, cp, rfl, hA1, hA2, hAs⟩ := h.own.shape eltT
  have HV := Lib.hid (ovalid h)
  have HPL := Lib.hid (hpl ▸ place_any at_ w)
  have c2 := (h.up (below1 w (.cells #[.int .i64 at_, .int .i64 n] 100))).cell 2 _ rfl
  have H := Lib.hid h
  have HAs := Lib.hid hAs
  have HP := Lib.hid hp
  have d1 : decide (n < (0 : Int)) = false := decide_eq_false (by omega)
  have d2 : decide ((65536 : Int) < n) = false := decide_eq_false (by omega)
  have HN0 := Lib.hid hn0
  have HN1 := Lib.hid hn1
  clear h hAs hp hpl hn0 hn1
  go_enter Tryz.func36, Tryz.ntmps36
  go_wp2_with fail
  refine HV.out.mono ?_
  rintro e w0 ⟨rfl, rfl⟩
  go_wp2_with fail
  refine HPL.out.mono ?_
  rintro e w0 ⟨rfl, rfl⟩
  go_wp2_with fail
  clear c2
  go_loopw [35] (fun vi wr => ∃ k : Nat, k ≤ L.length ∧ vi = .int .i64 k ∧ (∀ j x, j < k → L[j]? = some x → placeI (insT at_ n x.f x.t x.fr x.re) = true) ∧ Below (w.heap.size + 1) (w.alloc (.cells #[.int .i64 at_, .int .i64 n] 100)) wr) (fun vi _ => L.length - (intOf vi).toNat)
  case atStart => exact ⟨0, by omega, rfl, fun j x hj => by omega, Below.refl _ _⟩
  case round =>
    obtain ⟨k, hk, rfl, hno, hbel⟩ := hrel
    have hz := hbel.size
    simp at hz
    have hbw : Below w.heap.size w wr := (below1 w _).trans (hbel.mono (by omega))
    have k0 := hbel.cell (p := ⟨w.heap.size, 0, none⟩) (by simp)
    have k1 := hbel.cell (p := ⟨w.heap.size, 1, none⟩) (by simp)
    simp at k0 k1
    have HNO := Lib.hid hno
    have HB := Lib.hid hbel
    have HBW := Lib.hid hbw
    clear hno hbel hbw
    by_cases hlt : k < L.length
    · obtain ⟨x, hx⟩ : ∃ x, L[k]? = some x := ⟨_, List.getElem?_eq_getElem hlt⟩
      obtain ⟨g, o, hAe, hg, hc⟩ := (HAs.out.up HBW.out).at_ eltT hx
      have q0 := hc 0 _ rfl
      simp only [Nat.mul_one, Nat.add_zero] at q0
      have hxm := List.mem_of_getElem? hx
      have hpx := HP.out x hxm
      have HE := Lib.hid (insEnds ((H.out.ins x hxm).up HBW.out) at_ n HN0.out HN1.out hpx.1 hpx.2.1 hpx.2.2.1 hpx.2.2.2)
      have HPT := Lib.hid (fun w1 => place_any (insT at_ n x.f x.t x.fr x.re) w1)
      have HX := Lib.hid hx
      have HXM := Lib.hid hxm
      have hlt' : (k : Int) < L.length := by omega
      generalize insF at_ n x.f x.t x.fr x.re = y1 at HE
      subst hAe
      clear hc hx hxm hpx
      cases hpt : placeI (insT at_ n x.f x.t x.fr x.re) with
      | true =>
        simp only [hpt] at HPT
        have HPP := Lib.hid hpt
        generalize insT at_ n x.f x.t x.fr x.re = y2 at HE HPT
        clear hpt
        go_wp2_with fail
        refine HE.out.mono ?_
        rintro e w1 ⟨rfl, hb⟩
        have HB1 := Lib.hid (HB.out.trans (hb.mono (by omega)))
        clear hb
        go_wp2_with fail
        refine (HPT.out _).mono ?_
        rintro e w2 ⟨rfl, rfl⟩
        go_wp2_with fail
        go_roundw
        case rel =>
          refine ⟨k + 1, by omega, by go_num, fun j z hj hz => ?_, HB1.out⟩
          rcases Nat.lt_or_ge j k with h1 | h1
          · exact HNO.out j z h1 hz
          · obtain rfl : j = k := by omega
            rw [HX.out] at hz; cases hz; exact HPP.out
        case measure => simp [intOf]; omega
      | false =>
        simp only [hpt] at HPT
        have HPP := Lib.hid hpt
        generalize insT at_ n x.f x.t x.fr x.re = y2 at HE HPT
        clear hpt
        go_wp2_with fail
        refine HE.out.mono ?_
        rintro e w1 ⟨rfl, hb⟩
        have HB1 := Lib.hid (up2 HBW.out hb)
        clear hb
        go_wp2_with fail
        refine (HPT.out _).mono ?_
        rintro e w2 ⟨rfl, rfl⟩
        go_wp2_with fail
        go_ret
        have hf : insOk (L.map OverE.dat) at_ n = false := by
          unfold insOk
          rw [List.all_eq_false]
          exact ⟨x.dat, List.mem_map.2 ⟨x, HXM.out, rfl⟩, by rw [show placeI (insT at_ n x.dat.f x.dat.t x.dat.fr x.dat.re) = false from HPP.out]; simp⟩
        rw [HER.out, HDN.out, hf, if_neg (by decide), if_neg (by decide)]
        exact OPost.same H.out HB1.out
    · obtain rfl : k = L.length := by omega
      have hT : insOk (L.map OverE.dat) at_ n = true := by
        unfold insOk
        rw [List.all_eq_true]
        intro d hd
        obtain ⟨x, hx, rfl⟩ := List.mem_map.1 hd
        obtain ⟨j, hj, he⟩ := List.getElem_of_mem hx
        exact HNO.out j x hj (by rw [List.getElem?_eq_getElem hj, he])
      have HT := Lib.hid hT
      have c2 := (H.out.up HBW.out).cell 2 _ rfl
      have HAP := Lib.hid (apply_ins (H.out.up HBW.out) (at_ := at_) HN0.out HN1.out HP.out hl)
      clear hT
      go_wp2_with fail
      refine HAP.out.mono ?_
      rintro e w1 ⟨rfl, hs, hon⟩
      have HS := Lib.hid hs
      have HON := Lib.hid ((Only.of_below HBW.out).trans hon)
      clear hs hon
      go_wp2_with fail
      go_ret
      rw [HER.out, HDN.out, HT.out, if_pos rfl, if_pos rfl]
      exact ⟨_, _, rfl, HS.out, by simp only [List.map_map]; rfl, HON.out, fun k hk => .inl (by rw [foot_map] at hk; exact hk)⟩
end
end Go.Proofs.YthjkdeocdhdkaaaGreat
