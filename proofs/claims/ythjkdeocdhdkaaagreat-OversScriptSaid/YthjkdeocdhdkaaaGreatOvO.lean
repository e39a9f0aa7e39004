/- Overlays: apply. -/
import Derived.Test.YthjkdeocdhdkaaaGreatOvN
namespace Go.Proofs.YthjkdeocdhdkaaaGreat
open Go.RowKit
set_option linter.unusedVariables false
set_option linter.unusedSimpArgs false
section
variable {w w' : World} {x : OverE} {L L' M : List OverE} {b : Nat} {pr ev nx : Int} {v v' : Value} {A : Option Addr}
def endsX (u : OverE → Int × Int) (x : OverE) : OverE := withEnds x (u x).1 (u x).2
/-- The first k have been moved. -/
def movedK (u : OverE → Int × Int) (L : List OverE) (k : Nat) : List OverE := (L.take k).map (endsX u) ++ L.drop k
theorem movedK_zero (u : OverE → Int × Int) (L : List OverE) : movedK u L 0 = L := by simp [movedK]
theorem movedK_all (u : OverE → Int × Int) (L : List OverE) : movedK u L L.length = L.map (endsX u) := by simp [movedK]
theorem movedK_at (u : OverE → Int × Int) {k : Nat} {x : OverE} (hx : L[k]? = some x) : (movedK u L k)[k]? = some x := by
  have hk := (List.getElem?_eq_some_iff.1 hx).1
  unfold movedK
  rw [List.getElem?_append_right (by simp; omega)]
  simp only [List.length_map, List.length_take, Nat.min_eq_left (Nat.le_of_lt hk), Nat.sub_self, List.getElem?_drop, Nat.add_zero]
  exact hx
theorem movedK_succ (u : OverE → Int × Int) {k : Nat} {x : OverE} (hx : L[k]? = some x) : (movedK u L k).set k (endsX u x) = movedK u L (k + 1) := by
  obtain ⟨hk, he⟩ := List.getElem?_eq_some_iff.1 hx
  unfold movedK
  have hl : ((L.take k).map (endsX u)).length = k := by simp; omega
  rw [List.set_append_right _ _ (by omega), hl, Nat.sub_self, List.drop_eq_getElem_cons hk, he, List.set_cons_zero, List.take_succ_eq_append_getElem hk, he]
  simp
theorem movedK_foot (u : OverE → Int × Int) (L : List OverE) (k : Nat) : (movedK u L k).flatMap OverE.foot = L.flatMap OverE.foot := by
  unfold movedK
  have h : ∀ l : List OverE, (l.map (endsX u)).flatMap OverE.foot = l.flatMap OverE.foot := fun l => by
    induction l with
    | nil => rfl
    | cons a l ih => rw [List.map_cons, List.flatMap_cons, List.flatMap_cons, ih]; rfl
  rw [List.flatMap_append, h, ← List.flatMap_append, List.take_append_drop]
theorem movedK_length (u : OverE → Int × Int) {k : Nat} (hk : k ≤ L.length) : (movedK u L k).length = L.length := by
  simp [movedK]; omega
set_option maxRecDepth 100000 in
set_option maxHeartbeats 1000000 in
theorem apply_ins (h : OvsAt w b pr ev v L nx) {at_ n : Int} (hn0 : 0 ≤ n) (hn1 : n ≤ 65536) (hp : ∀ x ∈ L, 1 ≤ x.f ∧ x.f ≤ 1099511627776 ∧ 1 ≤ x.t ∧ x.t ≤ 1099511627776) (hl : L.length ≤ 1000000) :
    Calls Tryz.prog 60 #[.pointer (some ⟨b, 0, none⟩), .iface 100 (.agg #[.int .i64 at_, .int .i64 n])] w fun e w' => e = .returned (.tuple #[]) ∧ OvsAt w' b pr ev v (L.map (endsX (fun x => (insF at_ n x.f x.t x.fr x.re, insT at_ n x.f x.t x.fr x.re)))) nx ∧ Only (· ∈ footS b v L) w w' := by
  obtain ⟨A, cp, rfl, hA1, hA2, hAs⟩ := h.own.shape eltT
  have c2 := h.cell 2 _ rfl
  have H := Lib.hid h
  have HAs := Lib.hid hAs
  clear h hAs
  go_enter Tryz.func60, Tryz.ntmps60
  go_wp2_with fail
  clear c2
  go_loopw [11] (fun vi wr => ∃ k : Nat, k ≤ L.length ∧ vi = .int .i64 k ∧ OvsAt wr b pr ev (.slice A L.length cp) (movedK (fun x => (insF at_ n x.f x.t x.fr x.re, insT at_ n x.f x.t x.fr x.re)) L k) nx ∧ Only (· ∈ footS b (.slice A L.length cp) L) w wr) (fun vi _ => L.length - (intOf vi).toNat)
  case atStart => exact ⟨0, by omega, rfl, by rw [movedK_zero]; exact H.out, Only.refl _ _⟩
  case round =>
    obtain ⟨k, hk, rfl, T, hon⟩ := hrel
    have HT := Lib.hid T
    have HON := Lib.hid hon
    clear T hon
    by_cases hlt : k < L.length
    · obtain ⟨x, hx⟩ : ∃ x, L[k]? = some x := ⟨_, List.getElem?_eq_getElem hlt⟩
      have hxm := movedK_at (fun x => (insF at_ n x.f x.t x.fr x.re, insT at_ n x.f x.t x.fr x.re)) hx
      obtain ⟨A1, c1, hv1, _, _, hr1⟩ := HT.out.own.shape eltT
      rw [movedK_length _ hk] at hv1
      cases hv1
      obtain ⟨g, o, hAe, hg, hc⟩ := hr1.at_ eltT hxm
      have k0 := hc 0 _ rfl
      simp only [Nat.mul_one, Nat.add_zero] at k0
      have hin := HT.out.ins x (List.mem_of_getElem? hxm)
      have HX := Lib.hid hx
      have HXM := Lib.hid hxm
      have hlt' : (k : Int) < L.length := by omega
      have HIN := Lib.hid hin
      have HAE := Lib.hid hAe
      clear hx hxm hc hin hr1 hAe
      have hAe := HAE.out
      subst hAe
      have hm : ∀ w : World, (method 249 100 (.agg #[.int .i64 at_, .int .i64 n]) "copyist/overs.ends").run Tryz.prog w = .ok (66, (.agg #[.int .i64 at_, .int .i64 n])) w := fun _ => by kernel_rfl
      have HCN := Lib.hid (insEnds HIN.out at_ n hn0 hn1 (hp x (List.mem_of_getElem? HX.out)).1 (hp x (List.mem_of_getElem? HX.out)).2.1 (hp x (List.mem_of_getElem? HX.out)).2.2.1 (hp x (List.mem_of_getElem? HX.out)).2.2.2)
      go_wp2_with fail
      refine HCN.out.mono ?_
      rintro e w1 ⟨rfl, hb⟩
      have T1 := HT.out.up hb
      have hin1 := HIN.out.up hb
      have z1 := hin1.fz 1
      have z2 := hin1.fz 2
      have q1 := hin1.cell 1 _ rfl
      have q2 := hin1.cell 2 _ rfl
      have hst := T1.ends HXM.out ((fun x => (insF at_ n x.f x.t x.fr x.re, insT at_ n x.f x.t x.fr x.re)) x).1 ((fun x => (insF at_ n x.f x.t x.fr x.re, insT at_ n x.f x.t x.fr x.re)) x).2
      rw [show withEnds x ((fun x => (insF at_ n x.f x.t x.fr x.re, insT at_ n x.f x.t x.fr x.re)) x).1 ((fun x => (insF at_ n x.f x.t x.fr x.re, insT at_ n x.f x.t x.fr x.re)) x).2 = endsX (fun x => (insF at_ n x.f x.t x.fr x.re, insT at_ n x.f x.t x.fr x.re)) x from rfl, movedK_succ (fun x => (insF at_ n x.f x.t x.fr x.re, insT at_ n x.f x.t x.fr x.re)) HX.out] at hst
      have HST := Lib.hid hst
      have hgf : x.g ∈ footS b (.slice (some ⟨g, o, none⟩) L.length cp) L := foot_x (List.mem_of_getElem? HX.out) (foot_g x)
      have HG := Lib.hid hgf
      have HB := Lib.hid hb
      clear T1 hin1 hst hgf hb k0
      go_wp2_with fail
      go_roundw
      case rel => exact ⟨k + 1, by omega, by go_num, HST.out, ((HON.out.trans (Only.of_below HB.out)).setCell (p := ⟨x.g, 1, none⟩) HG.out _).setCell (p := ⟨x.g, 2, none⟩) HG.out _⟩
      case measure => simp [intOf]; omega
    · obtain rfl : k = L.length := by omega
      go_wp2_with fail
      refine bodyPost_end (results_none rfl _ _ _) rfl ?_
      exact ⟨rfl, by rw [← movedK_all]; exact HT.out, HON.out⟩
set_option maxRecDepth 100000 in
set_option maxHeartbeats 1000000 in
theorem apply_rem (h : OvsAt w b pr ev v L nx) {rf rt : Int} (h0 : 1 ≤ rf) (h1 : rf ≤ rt) (h2 : rt ≤ 1099511627776) (hp : ∀ x ∈ L, 1 ≤ x.f ∧ x.f ≤ 1099511627776 ∧ 1 ≤ x.t ∧ x.t ≤ 1099511627776) (hl : L.length ≤ 1000000) :
    Calls Tryz.prog 60 #[.pointer (some ⟨b, 0, none⟩), .iface 95 (.agg #[.int .i64 rf, .int .i64 rt])] w fun e w' => e = .returned (.tuple #[]) ∧ OvsAt w' b pr ev v (L.map (endsX (fun x => (backI x.f rf rt, backI x.t rf rt)))) nx ∧ Only (· ∈ footS b v L) w w' := by
  obtain ⟨A, cp, rfl, hA1, hA2, hAs⟩ := h.own.shape eltT
  have c2 := h.cell 2 _ rfl
  have H := Lib.hid h
  have HAs := Lib.hid hAs
  clear h hAs
  go_enter Tryz.func60, Tryz.ntmps60
  go_wp2_with fail
  clear c2
  go_loopw [11] (fun vi wr => ∃ k : Nat, k ≤ L.length ∧ vi = .int .i64 k ∧ OvsAt wr b pr ev (.slice A L.length cp) (movedK (fun x => (backI x.f rf rt, backI x.t rf rt)) L k) nx ∧ Only (· ∈ footS b (.slice A L.length cp) L) w wr) (fun vi _ => L.length - (intOf vi).toNat)
  case atStart => exact ⟨0, by omega, rfl, by rw [movedK_zero]; exact H.out, Only.refl _ _⟩
  case round =>
    obtain ⟨k, hk, rfl, T, hon⟩ := hrel
    have HT := Lib.hid T
    have HON := Lib.hid hon
    clear T hon
    by_cases hlt : k < L.length
    · obtain ⟨x, hx⟩ : ∃ x, L[k]? = some x := ⟨_, List.getElem?_eq_getElem hlt⟩
      have hxm := movedK_at (fun x => (backI x.f rf rt, backI x.t rf rt)) hx
      obtain ⟨A1, c1, hv1, _, _, hr1⟩ := HT.out.own.shape eltT
      rw [movedK_length _ hk] at hv1
      cases hv1
      obtain ⟨g, o, hAe, hg, hc⟩ := hr1.at_ eltT hxm
      have k0 := hc 0 _ rfl
      simp only [Nat.mul_one, Nat.add_zero] at k0
      have hin := HT.out.ins x (List.mem_of_getElem? hxm)
      have HX := Lib.hid hx
      have HXM := Lib.hid hxm
      have hlt' : (k : Int) < L.length := by omega
      have HIN := Lib.hid hin
      have HAE := Lib.hid hAe
      clear hx hxm hc hin hr1 hAe
      have hAe := HAE.out
      subst hAe
      have hm : ∀ w : World, (method 249 95 (.agg #[.int .i64 rf, .int .i64 rt]) "copyist/overs.ends").run Tryz.prog w = .ok (123, (.agg #[.int .i64 rf, .int .i64 rt])) w := fun _ => by kernel_rfl
      have HCN := Lib.hid (remEnds HIN.out rf rt (hp x (List.mem_of_getElem? HX.out)).1 (hp x (List.mem_of_getElem? HX.out)).2.1 (hp x (List.mem_of_getElem? HX.out)).2.2.1 (hp x (List.mem_of_getElem? HX.out)).2.2.2 h0 h1 h2)
      go_wp2_with fail
      refine HCN.out.mono ?_
      rintro e w1 ⟨rfl, hb⟩
      have T1 := HT.out.up hb
      have hin1 := HIN.out.up hb
      have z1 := hin1.fz 1
      have z2 := hin1.fz 2
      have q1 := hin1.cell 1 _ rfl
      have q2 := hin1.cell 2 _ rfl
      have hst := T1.ends HXM.out ((fun x => (backI x.f rf rt, backI x.t rf rt)) x).1 ((fun x => (backI x.f rf rt, backI x.t rf rt)) x).2
      rw [show withEnds x ((fun x => (backI x.f rf rt, backI x.t rf rt)) x).1 ((fun x => (backI x.f rf rt, backI x.t rf rt)) x).2 = endsX (fun x => (backI x.f rf rt, backI x.t rf rt)) x from rfl, movedK_succ (fun x => (backI x.f rf rt, backI x.t rf rt)) HX.out] at hst
      have HST := Lib.hid hst
      have hgf : x.g ∈ footS b (.slice (some ⟨g, o, none⟩) L.length cp) L := foot_x (List.mem_of_getElem? HX.out) (foot_g x)
      have HG := Lib.hid hgf
      have HB := Lib.hid hb
      clear T1 hin1 hst hgf hb k0
      go_wp2_with fail
      go_roundw
      case rel => exact ⟨k + 1, by omega, by go_num, HST.out, ((HON.out.trans (Only.of_below HB.out)).setCell (p := ⟨x.g, 1, none⟩) HG.out _).setCell (p := ⟨x.g, 2, none⟩) HG.out _⟩
      case measure => simp [intOf]; omega
    · obtain rfl : k = L.length := by omega
      go_wp2_with fail
      refine bodyPost_end (results_none rfl _ _ _) rfl ?_
      exact ⟨rfl, by rw [← movedK_all]; exact HT.out, HON.out⟩
end
end Go.Proofs.YthjkdeocdhdkaaaGreat
