/- copyistlaw25.KillTurns, for all arguments. -/
import Derived.Test.YtmnmloebomlllaaDoorKrT
import Derived.Test.YtmnmloebomlllaaDoorKrActs
namespace Go.Proofs.YtmnmloebomlllaaDoor
open Go.RowKit
set_option linter.unusedVariables false
theorem turns_all (A : Option Addr) (c : Nat) (l : List KAct) (most n : Int) (w : World) (h : RSl encA w A l) (hl : l.length ≤ maxLen) (hts : ∀ a ∈ l, a.text.size ≤ maxLen) (hT : Tabs w.heap.size w) :
    Calls Tryd.prog 3 #[.int .i64 most, .slice A l.length c, .int .i64 n] w fun e w' => e = .returned (.bool true) ∧ Below w.heap.size w w' := by
  unfold maxLen at hl hts
  cases hb : lightB l with
  | false => exact turns_bad A c l most n w h (by omega) (fun a ha => by have := hts a ha; omega) hT hb
  | true =>
    have h2 := hb
    unfold lightB at h2
    rw [Bool.and_eq_true, List.all_eq_true] at h2
    exact turns_good A c l most n w h (by simpa using h2.2) (fun a ha => by simpa using h2.1 a ha) hT hb
end Go.Proofs.YtmnmloebomlllaaDoor
