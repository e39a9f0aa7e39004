/- Overlays: order, At, In. -/
import Derived.Test.YthjkdeocdhdkaaaGreatOvX
import Derived.Test.YthjkdeocdhdkaaaGreatOvY
namespace Go.Proofs.YthjkdeocdhdkaaaGreat
open Go.RowKit
set_option linter.unusedVariables false
set_option linter.unusedSimpArgs false
section
variable {w w' W : World} {x : OverE} {L L' M : List OverE} {b : Nat} {pr ev nx : Int} {v v' : Value} {A : Option Addr}
/-- What a closure over overlays answers by their data; it makes memory only. -/
def Asks (w : World) (F : FuncId) (caps : Array Value) (q : OverD → Bool) (L : List OverE) : Prop :=
  ∀ x ∈ L, ∀ w1, Below w.heap.size w w1 → Calls Tryz.prog F (#[.pointer (some ⟨x.g, 0, none⟩)] ++ caps) w1 fun e w2 => e = .returned (.bool (q x.dat)) ∧ Below w1.heap.size w1 w2
def OrdPost (w : World) (L : List OverE) (pr : Int) (q : OverD → Bool) (e : Ending) (w' : World) : Prop :=
  ∃ v N, e = .returned v ∧ N.map OverE.dat = sortD pr ((L.map OverE.dat).filter q) ∧ (∀ x ∈ N, x ∈ L) ∧ ROwn encT 72 1 w.heap.size w' v N ∧ Below w.heap.size w w'
set_option maxRecDepth 100000 in
set_option maxHeartbeats 2000000 in
theorem order_any (h : OvsAt w b pr ev v L nx) (hs : ∀ x ∈ L, SortedP x.ps ∧ x.ps.length ≤ 64) (hid : (L.map OverE.id).Nodup) (hl : L.length ≤ 1000000) {F : FuncId} {caps : Array Value} {q : OverD → Bool} (hF : Enters F) (hq : Asks w F caps q L) :
    Calls Tryz.prog 47 #[.pointer (some ⟨b, 0, none⟩), .func (.func F) #[] caps] w (OrdPost w L pr q) := by
  obtain ⟨A, cp, rfl, hA1, hA2, hAs⟩ := h.own.shape eltT
  have hB := below1 w (.cells #[.pointer (some ⟨b, 0, none⟩)] 24)
  have h1 := h.up hB
  have HV := Lib.hid (ovalid h1)
  have k0 : (w.alloc (.cells #[.pointer (some ⟨b, 0, none⟩)] 24)).cell? ⟨w.heap.size, 0, none⟩ = some (.pointer (some ⟨b, 0, none⟩)) := by simp only [World.cell?, (MapKept.heap_alloc w _).1]; rfl
  have c2 := h1.cell 2 _ rfl
  have hsz : (w.alloc (.cells #[.pointer (some ⟨b, 0, none⟩)] 24)).heap.size = w.heap.size + 1 := by simp
  have hbl := h.blt
  have H := Lib.hid h
  have H1 := Lib.hid h1
  have HS := Lib.hid hs
  have HID := Lib.hid hid
  have HQ := Lib.hid hq
  have HB := Lib.hid hB
  have HK := Lib.hid k0
  have HZ := Lib.hid hsz
  have hin : ∀ (args : Array Value) (w : World), (callFunc F args).run Tryz.prog w = .ok (.enter F args) w := hF
  clear h h1 hs hid hq hB hAs hF k0 hsz
  go_enter Tryz.func47, Tryz.ntmps47
  go_wp2_with fail
  refine HV.out.mono ?_
  rintro e w0 ⟨rfl, rfl⟩
  go_wp2_with fail
  go_loopw [5, 16] (fun vo vi wr => ∃ (k : Nat) (M : List OverE), k ≤ L.length ∧ vi = .int .i64 k ∧ M = (L.take k).filter (fun x => q x.dat) ∧ ROwn encT 72 1 (w.heap.size + 1) wr vo M ∧ Below (w.heap.size + 1) (w.alloc (.cells #[.pointer (some ⟨b, 0, none⟩)] 24)) wr) (fun _ vi _ => L.length - (intOf vi).toNat)
  case atStart => exact ⟨0, [], by omega, rfl, rfl, ROwn.nil _ _, Below.refl _ _⟩
  case round =>
    obtain ⟨k, M, hk, rfl, hM, hown, hbel⟩ := hrel
    have hbw : Below w.heap.size w wr := HB.out.trans (hbel.mono (by omega))
    have d0 := (hbel.cell (p := ⟨w.heap.size, 0, none⟩) (by show w.heap.size < _; omega)).trans HK.out
    have hMl : M.length ≤ k := by rw [hM]; have h1 := List.length_filter_le (fun x : OverE => q x.dat) (L.take k); have h2 := List.length_take_le k L; omega
    have hws := hbel.size
    rw [HZ.out] at hws
    have HMM := Lib.hid hM
    have HO := Lib.hid hown
    have HBE := Lib.hid hbel
    have HBW := Lib.hid hbw
    clear hM hown hbel hbw c2
    by_cases hlt : k < L.length
    · obtain ⟨x, hx⟩ : ∃ x, L[k]? = some x := ⟨_, List.getElem?_eq_getElem hlt⟩
      have hxm := List.mem_of_getElem? hx
      obtain ⟨A1, c1, hv1, _, _, hr1⟩ := (H.out.up HBW.out).own.shape eltT
      cases hv1
      obtain ⟨g, o, hAe, hg, hc⟩ := hr1.at_ eltT hx
      have e0 := hc 0 _ rfl
      simp only [Nat.mul_one, Nat.add_zero] at e0
      have hlt' : (k : Int) < L.length := by omega
      have MM := Lib.hid (HQ.out x hxm wr HBW.out)
      have htk : (L.take (k + 1)).filter (fun x => q x.dat) = (L.take k).filter (fun x => q x.dat) ++ (if q x.dat then [x] else []) := by
        rw [List.take_add_one, hx, List.filter_append]
        cases hf : q x.dat <;> simp [hf]
      have HTK := Lib.hid htk
      have HAE := Lib.hid hAe
      clear hx hxm hc hr1 htk d0 hAe
      have hAe := HAE.out
      subst hAe
      cases hf : q x.dat with
      | false =>
        rw [hf] at MM HTK
        clear hf
        go_wp2_with fail
        refine MM.out.mono ?_
        rintro e w2 ⟨rfl, hb2⟩
        have HB2 := Lib.hid hb2
        clear hb2
        go_wp2_with fail
        go_roundw
        case rel => exact ⟨k + 1, M, by omega, by go_num, by rw [HTK.out, HMM.out]; simp, HO.out.up HB2.out, HBE.out.trans (HB2.out.mono (by omega))⟩
        case measure => simp [intOf]; omega
      | true =>
        rw [hf] at MM HTK
        clear hf
        go_wp2_with fail
        refine MM.out.mono ?_
        rintro e w2 ⟨rfl, hb2⟩
        have hwz2 := hb2.size
        obtain ⟨v', w', happ, hown', hb', _, _⟩ := append_elem eltT (HO.out.up hb2) (by omega) x (by omega) (by omega)
        obtain ⟨Ao, co, hvo, _, _, _⟩ := (HO.out.up hb2).shape eltT
        obtain ⟨Ao2, co2, hvo2, _, _, _⟩ := hown'.shape eltT
        have HO2 := Lib.hid hown'
        have HB2 := Lib.hid (HBE.out.trans ((hb2.mono (by omega)).trans hb'))
        have HP := Lib.hid happ
        generalize (M ++ [x]).length = n2 at hvo2
        clear hb2 hown' hb' happ
        subst hvo hvo2
        go_wp2_with (at_builtin; refine wpList_app_run rfl _ _ _ rfl rfl rfl HP.out ?_)
        go_roundw
        case rel => exact ⟨k + 1, M ++ [x], by omega, by go_num, by rw [HTK.out, HMM.out]; simp, HO2.out, HB2.out⟩
        case measure => simp [intOf]; omega
    · obtain rfl : k = L.length := by omega
      have hMf : M = L.filter (fun x => q x.dat) := by rw [HMM.out, List.take_of_length_le (Nat.le_refl _)]
      have hML : ∀ x ∈ M, x ∈ L := fun x hx => by rw [hMf] at hx; exact (List.mem_filter.1 hx).1
      have hn : (M.map OverE.id).Nodup := by rw [hMf]; exact (List.filter_sublist.map _).nodup HID.out
      have hwr := H.out.up HBW.out
      have HSC := Lib.hid (sort_ptr (M := M) (base := w.heap.size + 1) (q := w.heap.size) d0 (hwr.cell 0 _ rfl) (by omega) (by omega) (fun x hx => hwr.ins x (hML x hx)) (fun x hx k hk => by have := H.out.lt (foot_x (hML x hx) hk); omega) (fun x hx => HS.out x (hML x hx)) hn HO.out (by omega))
      have hMD : M.map OverE.dat = (L.map OverE.dat).filter q := by rw [hMf, List.filter_map]; rfl
      have HMD := Lib.hid hMD
      have HML := Lib.hid hML
      obtain ⟨Ao, co, hvo, _, _, _⟩ := HO.out.shape eltT
      clear hMf hn hwr hMD hML d0 hlt
      subst hvo
      go_wp2_with fail
      refine HSC.out.mono ?_
      rintro e w3 ⟨rfl, N, hN1, hN2, hN3, hN4⟩
      go_wp2_with fail
      go_ret
      exact ⟨_, N, rfl, by rw [hN1, HMD.out], fun x hx => HML.out x (hN2.mem_iff.1 hx), hN3.low (by omega), HBW.out.trans (hN4.mono (by omega))⟩
def atI (pr : Int) (D : List OverD) (at_ : Int) : List Int := (sortD pr (D.filter (covB at_))).map OverD.id
set_option maxRecDepth 100000 in
set_option maxHeartbeats 1000000 in
theorem oat (h : OvsAt w b pr ev v L nx) (hs : ∀ x ∈ L, SortedP x.ps ∧ x.ps.length ≤ 64) (hid : (L.map OverE.id).Nodup) (hl : L.length ≤ 1000000) (at_ : Int) :
    Calls Tryz.prog 14 #[.pointer (some ⟨b, 0, none⟩), .int .i64 at_] w (IsPost w (atI pr (L.map OverE.dat) at_)) := by
  have hB := below1 w (.cells #[.int .i64 at_] 3)
  have k0 : (w.alloc (.cells #[.int .i64 at_] 3)).cell? ⟨w.heap.size, 0, none⟩ = some (.int .i64 at_) := by simp only [World.cell?, (MapKept.heap_alloc w _).1]; rfl
  have h1 := h.up hB
  have hask : Asks (w.alloc (.cells #[.int .i64 at_] 3)) 76 #[.pointer (some ⟨w.heap.size, 0, none⟩)] (covB at_) L := fun x hx w1 hb => by
    refine (coversC ((h1.ins x hx).up hb) at_ w.heap.size ((hb.cell (p := ⟨w.heap.size, 0, none⟩) (by simp)).trans k0)).mono ?_
    rintro e w' ⟨rfl, n, rfl⟩
    have bb := Below.refl w1.heap.size w1
    exact ⟨rfl, bb.os, bb.tape, bb.output, bb.size, bb.block⟩
  have HO := Lib.hid (order_any h1 hs hid hl enters_covers hask)
  have H := Lib.hid h1
  have HB := Lib.hid hB
  clear h h1 hs hid hask k0 hB
  go_enter Tryz.func14, Tryz.ntmps14
  go_wp2_with fail
  refine (covers_any at_ w).mono ?_
  rintro e w1 ⟨rfl, rfl⟩
  go_wp2_with fail
  refine HO.out.mono ?_
  rintro e w2 ⟨vo, N, rfl, hN1, hN2, hN3, hN4⟩
  obtain ⟨A2, c2, rfl, _, _, hr⟩ := hN3.shape eltT
  have hNl : N.length ≤ L.length := by
    have h1 := congrArg List.length hN1
    simp only [sortD, List.length_map, List.length_mergeSort] at h1
    have h2 := List.length_filter_le (covB at_) (L.map OverE.dat)
    simp at h2; omega
  have HNU := Lib.hid (numbers_any hr (fun x hx => (H.out.ins x (hN2 x hx)).up hN4) c2 (by omega))
  go_wp2_with fail
  refine HNU.out.mono ?_
  rintro e w3 ⟨v3, rfl, ho3, hb3⟩
  go_wp2_with fail
  go_ret
  have hid : N.map OverE.id = atI pr (L.map OverE.dat) at_ := by
    unfold atI; rw [← hN1, List.map_map]; rfl
  rw [hid] at ho3
  have hz1 := HB.out.size
  have hz2 := hN4.size
  exact ⟨v3, rfl, ho3.low (by omega), up2 (up2 HB.out hN4) hb3⟩
end
end Go.Proofs.YthjkdeocdhdkaaaGreat
