/- Overlays: slices.IndexFunc with a closure that keeps a relation; find. -/
import Derived.Test.YthjkdeocdhdkaaaGreatOvA
namespace Go.Proofs.YthjkdeocdhdkaaaGreat
open Go.RowKit
set_option linter.unusedVariables false
set_option linter.unusedSimpArgs false
section
variable {w w' : World} {x : OverE} {L : List OverE} {b : Nat} {pr ev nx : Int} {v : Value} {A : Option Addr}
/-- The index of the first overlay for which p holds, or -1. -/
def idxI (p : OverE → Bool) (L : List OverE) : Int := match L.findIdx? p with | some k => k | none => -1
/-- How many overlays are asked until one answers yes. -/
def askedN (p : OverE → Bool) (L : List OverE) : Nat := match L.findIdx? p with | some k => k + 1 | none => L.length
theorem idx_some {p : OverE → Bool} {k : Nat} {x : OverE} (hx : L[k]? = some x) (hp : p x = true) (hno : ∀ j, j < k → ∀ y, L[j]? = some y → p y = false) : L.findIdx? p = some k := by
  obtain ⟨hlt, he⟩ := List.getElem?_eq_some_iff.1 hx
  rw [List.findIdx?_eq_some_iff_getElem]
  exact ⟨hlt, by rw [he]; exact hp, fun j hj => by have := hno j hj _ (List.getElem?_eq_getElem (by omega)); simpa using this⟩
theorem idx_none {p : OverE → Bool} (hno : ∀ j, j < L.length → ∀ y, L[j]? = some y → p y = false) : L.findIdx? p = none := by
  rw [List.findIdx?_eq_none_iff]
  intro y hy
  obtain ⟨j, hj, he⟩ := List.getElem_of_mem hy
  exact hno j hj y (by rw [List.getElem?_eq_getElem hj, he])
/-- A function that is entered when it is called. -/
def Enters (F : FuncId) : Prop := ∀ (args : Array Value) (w : World), (callFunc F args).run Tryz.prog w = .ok (.enter F args) w
theorem enters_mk {F : FuncId} {fn : Func} {c : Code} (hf : Tryz.prog.funcs[F]? = some fn) (hname : (fn.name == "runtime.NumGoroutine") = false) (hb : fn.body = some c) : Enters F := fun args w => by
  have h1 : fn.name ≠ "runtime.NumGoroutine" := by simpa using hname
  simp [callFunc, hf, h1, hb]
/-- What a closure over overlays answers, and what it keeps. -/
def ClosIs (F : FuncId) (caps : Array Value) (p : OverE → Bool) (L : List OverE) (Inv : List OverE → World → Prop) : Prop :=
  ∀ (pre : List OverE) (x : OverE) (post : List OverE) (w1 : World), L = pre ++ x :: post → Inv pre w1 → Calls Tryz.prog F (#[.pointer (some ⟨x.g, 0, none⟩)] ++ caps) w1 fun e w2 => e = .returned (.bool (p x)) ∧ Inv (pre ++ [x]) w2
def IxPost (p : OverE → Bool) (L : List OverE) (Inv : List OverE → World → Prop) (e : Ending) (w' : World) : Prop := e = .returned (.int .i64 (idxI p L)) ∧ Inv (L.take (askedN p L)) w'
set_option maxRecDepth 100000 in
set_option maxHeartbeats 1000000 in
theorem index_any {F : FuncId} {caps : Array Value} {p : OverE → Bool} {Inv : List OverE → World → Prop} (hF : Enters F) (hcl : ClosIs F caps p L Inv) (hsl : ∀ pre w1, Inv pre w1 → RSl encT w1 A L) (h0 : Inv [] w) (c : Nat) (hl : L.length ≤ 1000000) :
    Calls Tryz.prog 78 #[.slice A L.length c, .func (.func F) #[] caps] w (IxPost p L Inv) := by
  have HC := Lib.hid hcl
  have hin : ∀ (args : Array Value) (w : World), (callFunc F args).run Tryz.prog w = .ok (.enter F args) w := hF
  have HS := Lib.hid hsl
  clear hcl hsl hF
  go_enter Tryz.func78, Tryz.ntmps78
  go_wp2_with fail
  go_loopw [8] (fun vi wr => ∃ k : Nat, k ≤ L.length ∧ vi = .int .i64 k ∧ (∀ j, j < k → ∀ y, L[j]? = some y → p y = false) ∧ Inv (L.take k) wr) (fun vi _ => L.length - (intOf vi).toNat)
  case atStart => exact ⟨0, by omega, rfl, fun j hj => by omega, h0⟩
  case round =>
    obtain ⟨k, hk, rfl, hno, hinv⟩ := hrel
    have HNO := Lib.hid hno
    have HI := Lib.hid hinv
    clear hno hinv h0
    by_cases hlt : k < L.length
    · obtain ⟨x, hx⟩ : ∃ x, L[k]? = some x := ⟨_, List.getElem?_eq_getElem hlt⟩
      have hex := (List.getElem?_eq_some_iff.1 hx).2
      obtain ⟨g, o, hAe, hg, hcg⟩ := (HS.out _ _ HI.out).at_ eltT hx
      have k0 := hcg 0 _ rfl
      simp only [Nat.mul_one, Nat.add_zero] at k0
      have hspl : L = L.take k ++ x :: L.drop (k + 1) := by
        rw [← hex, ← List.drop_eq_getElem_cons hlt, List.take_append_drop]
      have htk : L.take k ++ [x] = L.take (k + 1) := by rw [List.take_succ_eq_append_getElem hlt, hex]
      have M := HC.out _ x _ wr hspl HI.out
      rw [htk] at M
      have HX := Lib.hid hx
      have hlt' : (k : Int) < L.length := by omega
      subst hAe
      have MM := Lib.hid M
      clear hx hcg M hspl htk hex
      cases hf : p x with
      | true =>
        rw [hf] at MM
        have HF := Lib.hid hf
        clear hf
        go_wp2_with fail
        refine MM.out.mono ?_
        rintro e w' ⟨rfl, hi2⟩
        have HI2 := Lib.hid hi2
        clear hi2
        go_wp2_with fail
        go_ret
        have h1 := idx_some HX.out HF.out HNO.out
        refine ⟨ret_int ?_, ?_⟩
        · unfold idxI; rw [h1]
        · unfold askedN; rw [h1]; exact HI2.out
      | false =>
        rw [hf] at MM
        have HF := Lib.hid hf
        clear hf
        go_wp2_with fail
        refine MM.out.mono ?_
        rintro e w' ⟨rfl, hi2⟩
        have HI2 := Lib.hid hi2
        clear hi2
        go_wp2_with fail
        go_roundw
        case rel =>
          refine ⟨k + 1, by omega, by go_num, fun j hj y hy => ?_, HI2.out⟩
          rcases Nat.lt_or_ge j k with h1 | h1
          · exact HNO.out j h1 y hy
          · obtain rfl : j = k := by omega
            rw [HX.out] at hy; cases hy; exact HF.out
        case measure => simp [intOf]; omega
    · obtain rfl : k = L.length := by omega
      go_wp2_with fail
      go_ret
      have h1 := idx_none (p := p) HNO.out
      refine ⟨ret_int ?_, ?_⟩
      · unfold idxI; rw [h1]
      · unfold askedN; rw [h1]; exact HI.out
end
end Go.Proofs.YthjkdeocdhdkaaaGreat
