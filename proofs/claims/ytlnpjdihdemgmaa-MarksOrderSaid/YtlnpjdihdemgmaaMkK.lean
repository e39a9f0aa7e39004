/- Laws of copyistlaw16 where more than sixty acts are handed over: true at once. -/
import Derived.Test.YtlnpjdihdemgmaaMkE
namespace Go.Proofs.Ytlnpjdihdemgmaa
open Go.RowKit
set_option linter.unusedVariables false

set_option maxRecDepth 100000 in
set_option maxHeartbeats 1000000 in
theorem order_long (a0 b0 : Int) (on also : Bool) (sa : Option Addr) (len cap : Nat) (w : World) (hl : 60 < len) (hm : len ≤ 9223372036854775807) :
    Calls Try.prog 6 #[.int .i64 a0, .int .i64 b0, .bool on, .bool also, .slice sa len cap] w fun e w' => e = .returned (.bool true) ∧ Below w.heap.size w w' := by
  have hl' : (60 : Int) < (len : Int) := by omega
  go_enter Try.func6, Try.ntmps6
  go_wp2_with (go_at_call 11; refine (lives_true _).mono ?_; rintro e w1 ⟨rfl, hB1⟩)
  go_ret
  exact ⟨rfl, hB1⟩
end Go.Proofs.Ytlnpjdihdemgmaa
