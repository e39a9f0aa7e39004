/- Overlays: slices.DeleteFunc with a closure that keeps a relation. -/
import Derived.Test.YthjkdeocdhdkaaaGreatOvE
import Derived.Test.YthjkdeocdhdkaaaGreatClr
namespace Go.Proofs.YthjkdeocdhdkaaaGreat
open Go.RowKit
set_option linter.unusedVariables false
set_option linter.unusedSimpArgs false
section
variable {w w' : World} {x : OverE} {L : List OverE} {b : Nat} {pr ev nx : Int} {v : Value} {A : Option Addr}
theorem zeroT (w : World) : (zeroValue 72).run Tryz.prog w = .ok (.pointer none) w := by kernel_rfl
/-- What a closure over overlays answers, what it keeps; the blocks in G it leaves. -/
def ClosKeeps (F : FuncId) (caps : Array Value) (p : OverE → Bool) (L : List OverE) (v : Value) (Inv : List OverE → World → Prop) : Prop :=
  ∀ (pre : List OverE) (x : OverE) (post : List OverE) (w1 : World), L = pre ++ x :: post → Inv pre w1 → Calls Tryz.prog F (#[.pointer (some ⟨x.g, 0, none⟩)] ++ caps) w1 fun e w2 => e = .returned (.bool (p x)) ∧ Inv (pre ++ [x]) w2 ∧ ∀ g, v.ownBlock = some g → w2.heap[g]? = w1.heap[g]?
def DelPost (v : Value) (p : OverE → Bool) (L : List OverE) (Inv : List OverE → World → Prop) (e : Ending) (w' : World) : Prop :=
  ∃ v', e = .returned v' ∧ ROwn encT 72 1 0 w' v' (L.filter (fun x => !p x)) ∧ Inv L w' ∧ v'.ownBlock = v.ownBlock
theorem filter_take_idx {p : OverE → Bool} {k : Nat} (h : L.findIdx? p = some k) : (L.take (k + 1)).filter (fun x => !p x) = L.take k := by
  obtain ⟨hk, hp, hno⟩ := List.findIdx?_eq_some_iff_getElem.1 h
  rw [List.take_succ_eq_append_getElem hk, List.filter_append]
  have h1 : (L.take k).filter (fun x => !p x) = L.take k := by
    rw [List.filter_eq_self]
    intro y hy
    obtain ⟨j, hj, he⟩ := List.getElem_of_mem hy
    simp only [List.length_take] at hj
    have := hno j (by omega)
    simp at he
    rw [← he]; simpa using this
  rw [h1]; simp [hp]
theorem filter_none {p : OverE → Bool} (h : L.findIdx? p = none) : L.filter (fun x => !p x) = L := by
  rw [List.filter_eq_self]
  rw [List.findIdx?_eq_none_iff] at h
  intro y hy; simpa using h y hy
set_option maxRecDepth 100000 in
set_option maxHeartbeats 2000000 in
theorem delete_any {F : FuncId} {caps : Array Value} {p : OverE → Bool} {Inv : List OverE → World → Prop} (hF : Enters F) (n c : Nat) (hn : n = L.length) (hown : ROwn encT 72 1 0 w (.slice A n c) L) (hcl : ClosKeeps F caps p L (.slice A n c) Inv)
    (hst : ∀ pre w1 w2, Inv pre w1 → Only (fun k => (Value.slice A n c).ownBlock = some k) w1 w2 → Inv pre w2) (h0 : Inv [] w) (hl : L.length ≤ 1000000) :
    Calls Tryz.prog 61 #[.slice A n c, .func (.func F) #[] caps] w (DelPost (.slice A n c) p L Inv) := by
  subst hn
  have hIX := index_any (w := w) (A := A) (p := p) (L := L) hF (Inv := fun pre w1 => Inv pre w1 ∧ ROwn encT 72 1 0 w1 (.slice A L.length c) L)
    (fun pre x post w1 hL hi => (hcl pre x post w1 hL hi.1).mono fun e w2 ⟨he, h1, h2⟩ => ⟨he, h1, hi.2.kept h2⟩)
    (fun pre w1 hi => by obtain ⟨A', c', e, _, _, hr⟩ := hi.2.shape eltT; cases e; exact hr) ⟨h0, hown⟩ c hl
  have HIX := Lib.hid hIX
  have HC := Lib.hid hcl
  have HST := Lib.hid hst
  have hin : ∀ (args : Array Value) (w : World), (callFunc F args).run Tryz.prog w = .ok (.enter F args) w := hF
  clear hIX hcl hst hF h0 hown
  go_enter Tryz.func61, Tryz.ntmps61
  go_wp2_with fail
  refine HIX.out.mono ?_
  rintro e w1 ⟨rfl, hinv, hown⟩
  cases hi : L.findIdx? p with
  | none =>
    have hix : idxI p L = -1 := by unfold idxI; rw [hi]
    have hak : askedN p L = L.length := by unfold askedN; rw [hi]
    rw [hak, List.take_of_length_le (Nat.le_refl _)] at hinv
    rw [hix]
    have HI := Lib.hid hinv
    have HO := Lib.hid hown
    have HN := Lib.hid (filter_none hi)
    clear hinv hown hi hix hak
    go_wp2_with fail
    go_ret
    exact ⟨_, rfl, by rw [HN.out]; exact HO.out, HI.out, rfl⟩
  | some i0 =>
    have hix : idxI p L = i0 := by unfold idxI; rw [hi]
    have hak : askedN p L = i0 + 1 := by unfold askedN; rw [hi]
    have hil := (List.findIdx?_eq_some_iff_getElem.1 hi).1
    rw [hak] at hinv
    rw [hix]
    obtain ⟨g, cap, e, hc1, hc2, _, _, _, _⟩ := hown.lies eltT (by omega)
    cases e
    have hft := filter_take_idx hi
    have HI := Lib.hid hinv
    have HO := Lib.hid hown
    have HFT := Lib.hid hft
    have hne : ((i0 : Int) == -1) = false := beq_eq_false_iff_ne.2 (by omega)
    unfold maxLen at hc2
    clear hinv hown hi hix hak hft
    go_wp2_with fail
    go_loopw [5, 6] (fun vi vj wr => ∃ (i k : Nat) (M : List OverE), i < k ∧ k ≤ L.length ∧ vi = .int .i64 i ∧ vj = .int .i64 k ∧ M.length = L.length ∧ M.take i = (L.take k).filter (fun x => !p x) ∧ M.drop k = L.drop k ∧ ROwn encT 72 1 0 wr (.slice (some ⟨g, 0, none⟩) L.length c) M ∧ Inv (L.take k) wr) (fun _ vj _ => L.length - (intOf vj).toNat)
    case atStart => exact ⟨i0, i0 + 1, L, by omega, by omega, rfl, by go_num, rfl, HFT.out.symm, rfl, HO.out, HI.out⟩
    case round =>
      obtain ⟨i, k, M, hik, hk, rfl, rfl, hM, htk, hdr, hown, hinv⟩ := hrel
      have HTK := Lib.hid htk
      have HDR := Lib.hid hdr
      have HMM := Lib.hid hM
      have HI2 := Lib.hid hinv
      have HO2 := Lib.hid hown
      clear htk hdr hinv
      by_cases hlt : k < L.length
      · obtain ⟨x, hx⟩ : ∃ x, L[k]? = some x := ⟨_, List.getElem?_eq_getElem hlt⟩
        have hex := (List.getElem?_eq_some_iff.1 hx).2
        have hxM : M[k]? = some x := by
          have := congrArg (fun l => l[0]?) HDR.out
          simp only [List.getElem?_drop, Nat.add_zero] at this
          rw [this]; exact hx
        have hownM : ROwn encT 72 1 0 wr (.slice (some ⟨g, 0, none⟩) M.length c) M := by rw [hM]; exact hown
        obtain ⟨g', cap', e, _, _, _, _, hfz, hcs⟩ := hownM.lies eltT (by omega)
        cases e
        have k0 := hcs k x 0 _ hxM rfl
        simp only [Nat.mul_one, Nat.add_zero] at k0
        have hspl : L = L.take k ++ x :: L.drop (k + 1) := by
          rw [← hex, ← List.drop_eq_getElem_cons hlt, List.take_append_drop]
        have htk1 : L.take k ++ [x] = L.take (k + 1) := by rw [List.take_succ_eq_append_getElem hlt, hex]
        have M1 := HC.out _ x _ wr hspl HI2.out
        rw [htk1] at M1
        have HX := Lib.hid hx
        have HT1 := Lib.hid htk1
        have hlt' : (k : Int) < L.length := by omega
        have MM := Lib.hid M1
        have hdr1 : M.drop (k + 1) = L.drop (k + 1) := by
          have := congrArg (List.drop 1) HDR.out
          rw [List.drop_drop, List.drop_drop] at this
          exact this
        have HD1 := Lib.hid hdr1
        clear hx hcs M1 hspl htk1 hex hxM hdr1 hown hM hfz hownM
        cases hf : p x with
        | true =>
          rw [hf] at MM
          have HF := Lib.hid hf
          clear hf
          go_wp2_with fail
          refine MM.out.mono ?_
          rintro e w2 ⟨rfl, hi2, hg2⟩
          have HI3 := Lib.hid hi2
          have HO3 := Lib.hid (HO2.out.kept hg2)
          clear hi2 hg2
          go_wp2_with fail
          go_roundw
          case rel => exact ⟨i, k + 1, M, by omega, by omega, rfl, by go_num, HMM.out, by rw [HTK.out, ← HT1.out, List.filter_append]; simp [HF.out], HD1.out, HO3.out, HI3.out⟩
          case measure => simp [intOf]; omega
        | false =>
          rw [hf] at MM
          have HF := Lib.hid hf
          clear hf
          go_wp2_with fail
          refine MM.out.mono ?_
          rintro e w2 ⟨rfl, hi2, hg2⟩
          have ho3 := HO2.out.kept hg2
          have hMl := HMM.out
          obtain ⟨yi, hiM⟩ : ∃ y, M[i]? = some y := ⟨_, List.getElem?_eq_getElem (by omega)⟩
          have ho3M : ROwn encT 72 1 0 w2 (.slice (some ⟨g, 0, none⟩) M.length c) M := by rw [hMl]; exact ho3
          obtain ⟨g', cap', e, _, _, _, _, hfz, hcs⟩ := ho3M.lies eltT (by omega)
          cases e
          have d0 := hcs i _ 0 _ hiM rfl
          have z0 := hfz i (by omega)
          simp only [Nat.mul_one, Nat.add_zero] at d0
          have hput : ROwn encT 72 1 0 (w2.setCell ⟨g, i, none⟩ (.pointer (some ⟨x.g, 0, none⟩))) (.slice (some ⟨g, 0, none⟩) L.length c) (M.set i x) := by
            have h1 : ROwn encT 72 1 0 w2 (.slice (some ⟨g, 0, none⟩) M.length c) M := by rw [hMl]; exact ho3
            have := h1.put eltT hiM (j := 0) (y := x) (u := .pointer (some ⟨x.g, 0, none⟩)) (by omega) rfl
            rw [hMl] at this
            simpa using this
          have hi4 := HST.out _ _ (w2.setCell ⟨g, i, none⟩ (.pointer (some ⟨x.g, 0, none⟩))) hi2 ((Only.refl (fun k => (Value.slice (some ⟨g, 0, none⟩) L.length c).ownBlock = some k) w2).setCell (p := ⟨g, i, none⟩) rfl _)
          have HI3 := Lib.hid hi4
          have HO3 := Lib.hid hput
          have hi64 : (i : Int) < L.length := by omega
          clear hi2 hg2 hput hi4 ho3 hMl hiM hfz hcs ho3M
          go_wp2_with fail
          go_roundw
          case rel =>
            refine ⟨i + 1, k + 1, M.set i x, by omega, by omega, by go_num, by go_num, by rw [List.length_set]; exact HMM.out, ?_, ?_, HO3.out, HI3.out⟩
            · rw [← HT1.out, List.filter_append, ← HTK.out]
              have hiM2 : i < M.length := by have := HMM.out; omega
              rw [List.take_succ_eq_append_getElem (by rw [List.length_set]; exact hiM2), List.take_set_of_le (Nat.le_refl _)]
              simp [HF.out]
            · rw [List.drop_set_of_lt (by omega)]; exact HD1.out
          case measure => simp [intOf]; omega
      · obtain rfl : k = L.length := by omega
        have hMl := HMM.out
        have h1 : ROwn encT 72 1 0 wr (.slice (some ⟨g, 0, none⟩) M.length c) M := by rw [hMl]; exact HO2.out
        obtain ⟨w3, hrun, ho3, hon⟩ := clear_own eltT zeroT (fun u hu => by simp [Value.cells] at hu; subst hu; rfl) h1 (i := i) (by omega) (c - i)
        rw [hMl, Nat.mul_one] at hrun
        have hi3 := HST.out _ _ w3 HI2.out (hon.mono (fun k e => by subst e; rfl))
        have HI3 := Lib.hid hi3
        have HO3 := Lib.hid ho3
        have hci : (c == i) = false := by simp; omega
        have hci' : ¬ c = i := by omega
        have hci2 : (i : Int) ≤ c := by omega
        have hci3 : (i : Int) ≤ L.length := by omega
        clear hi3 ho3 hon h1 hMl hM hown hlt
        go_wp2_with fail
        go_ret
        refine ⟨_, rfl, ?_, ?_, rfl⟩
        · have h2 := HO3.out
          rw [HTK.out, List.take_of_length_le (Nat.le_refl _)] at h2
          exact h2
        · have h2 := HI3.out
          rw [List.take_of_length_le (Nat.le_refl _)] at h2
          exact h2
end
end Go.Proofs.YthjkdeocdhdkaaaGreat
