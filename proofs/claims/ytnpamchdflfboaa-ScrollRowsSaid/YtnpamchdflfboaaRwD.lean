/- scroll.Start and the reference's. -/
import Derived.Test.YtnpamchdflfboaaRwC
namespace Go.Proofs.Ytnpamchdflfboaa
open Go.RowKit
set_option linter.unusedVariables false
set_option linter.unusedSimpArgs false
section
variable {w w' : World} {A A' : Option Addr} {l l' : List RowE}
/-- The last of the first k rows that begins at or before pos. -/
def startTo (l : List RowE) (pos : Int) : Nat → Nat
  | 0 => 0
  | k + 1 => match l[k]? with
    | some e => if e.from_ ≤ pos then k else startTo l pos k
    | none => startTo l pos k
theorem startTo_same (h : SameL l l') (pos : Int) : ∀ k, startTo l pos k = startTo l' pos k
  | 0 => rfl
  | k + 1 => by
    unfold startTo
    rw [startTo_same h pos k]
    cases ha : l[k]? with
    | none =>
      have : l'[k]? = none := by rw [List.getElem?_eq_none_iff] at ha ⊢; rw [← h.len]; exact ha
      rw [this]
    | some e =>
      have hk : k < l'.length := by rw [← h.len]; exact (List.getElem?_eq_some_iff.1 ha).1
      have hb : l'[k]? = some l'[k] := List.getElem?_eq_getElem hk
      rw [hb]
      dsimp only
      rw [(h.at_ k _ _ ha hb).from_]
theorem startTo_succ {k : Nat} {e : RowE} (h : l[k]? = some e) (pos : Int) : startTo l pos (k + 1) = if e.from_ ≤ pos then k else startTo l pos k := by
  rw [startTo, h]
theorem startTo_le (l : List RowE) (pos : Int) : ∀ k, startTo l pos k ≤ k
  | 0 => Nat.le_refl _
  | k + 1 => by
    have := startTo_le l pos k
    unfold startTo
    split
    · split <;> omega
    · omega
set_option maxRecDepth 100000 in
set_option maxHeartbeats 1000000 in
theorem startI_any (c : Nat) (pos : Int) (h : RowsAt w A l) (hl : l.length ≤ 1000000) :
    Calls Try.prog 24 #[.slice A l.length c, .int .i64 pos] w fun e w' => e = .returned (.int .i64 (startTo l pos l.length)) ∧ Below w.heap.size w w' := by
  go_enter Try.func24, Try.ntmps24
  go_wp2_with fail
  go_loopw [5, 10] (fun vo vi wr => ∃ k : Nat, k ≤ l.length ∧ vi = .int .i64 k ∧ vo = .int .i64 (startTo l pos k) ∧ Below w.heap.size w wr) (fun _ vi _ => l.length - (intOf vi).toNat)
  case atStart => exact ⟨0, by omega, rfl, rfl, Below.refl _ _⟩
  case round =>
    obtain ⟨k, hk, rfl, rfl, hbel⟩ := hrel
    by_cases hlt : k < l.length
    · obtain ⟨e, hx⟩ : ∃ x, l[k]? = some x := ⟨_, List.getElem?_eq_getElem hlt⟩
      obtain ⟨g, o, rfl, hg, hcg⟩ := (h.up hbel).1.at_ eltR hx
      have hst := startTo_succ hx pos
      obtain ⟨A1, c1, cs, A2, c2, ps, fr, to, co⟩ := e
      have k0 : wr.cell? ⟨g, o + k * 5, none⟩ = some (.slice A1 cs.length c1) := hcg 0 _ rfl
      have k1 : wr.cell? ⟨g, o + k * 5 + 1, none⟩ = some (.slice A2 ps.length c2) := hcg 1 _ rfl
      have k2 : wr.cell? ⟨g, o + k * 5 + 2, none⟩ = some (.int .i64 fr) := hcg 2 _ rfl
      have k3 : wr.cell? ⟨g, o + k * 5 + 3, none⟩ = some (.int .i64 to) := hcg 3 _ rfl
      have k4 : wr.cell? ⟨g, o + k * 5 + 4, none⟩ = some (.bool co) := hcg 4 _ rfl
      have hlt' : (k : Int) < l.length := by omega
      dsimp only at hst
      have HST := Lib.hid hst
      clear hst hx hcg
      by_cases hfr : fr ≤ pos
      · have d1 : decide (fr ≤ pos) = true := decide_eq_true hfr
        go_wp2_with fail
        go_roundw
        case rel => exact ⟨k + 1, by omega, by go_num, by rw [HST.out, if_pos hfr], up2 hbel (below1 _ _)⟩
        case measure => simp [intOf]; omega
      · have d1 : decide (fr ≤ pos) = false := decide_eq_false hfr
        go_wp2_with fail
        go_roundw
        case rel => exact ⟨k + 1, by omega, by go_num, by rw [HST.out, if_neg hfr], up2 hbel (below1 _ _)⟩
        case measure => simp [intOf]; omega
    · have hkn : k = l.length := by omega
      subst hkn
      go_wp2_with fail
      go_ret
      exact ⟨rfl, hbel⟩
set_option maxRecDepth 100000 in
set_option maxHeartbeats 1000000 in
theorem startR_any (c : Nat) (pos : Int) (h : RowsAt w A l) (hl : l.length ≤ 1000000) :
    Calls Try.prog 25 #[.slice A l.length c, .int .i64 pos] w fun e w' => e = .returned (.int .i64 (startTo l pos l.length)) ∧ Below w.heap.size w w' := by
  go_enter Try.func25, Try.ntmps25
  go_wp2_with fail
  go_loopw [5, 6] (fun vo vi wr => ∃ k : Nat, k ≤ l.length ∧ vi = .int .i64 k ∧ vo = .int .i64 (startTo l pos k) ∧ Below w.heap.size w wr) (fun _ vi _ => l.length - (intOf vi).toNat)
  case atStart => exact ⟨0, by omega, rfl, rfl, Below.refl _ _⟩
  case round =>
    obtain ⟨k, hk, rfl, rfl, hbel⟩ := hrel
    by_cases hlt : k < l.length
    · obtain ⟨e, hx⟩ : ∃ x, l[k]? = some x := ⟨_, List.getElem?_eq_getElem hlt⟩
      obtain ⟨g, o, rfl, hg, hcg⟩ := (h.up hbel).1.at_ eltR hx
      have hst := startTo_succ hx pos
      obtain ⟨A1, c1, cs, A2, c2, ps, fr, to, co⟩ := e
      have k2 : wr.cell? ⟨g, o + k * 5 + 2, none⟩ = some (.int .i64 fr) := hcg 2 _ rfl
      have hlt' : (k : Int) < l.length := by omega
      dsimp only at hst
      have HST := Lib.hid hst
      clear hst hx hcg
      by_cases hfr : fr ≤ pos
      · have d1 : decide (fr ≤ pos) = true := decide_eq_true hfr
        go_wp2_with fail
        go_roundw
        case rel => exact ⟨k + 1, by omega, by go_num, by rw [HST.out, if_pos hfr], hbel⟩
        case measure => simp [intOf]; omega
      · have d1 : decide (fr ≤ pos) = false := decide_eq_false hfr
        go_wp2_with fail
        go_roundw
        case rel => exact ⟨k + 1, by omega, by go_num, by rw [HST.out, if_neg hfr], hbel⟩
        case measure => simp [intOf]; omega
    · have hkn : k = l.length := by omega
      subst hkn
      go_wp2_with fail
      go_ret
      exact ⟨rfl, hbel⟩
end
end Go.Proofs.Ytnpamchdflfboaa
