/- copyistlaw16.MarksText: no acts; too many acts. -/
import Derived.Test.YtlnpjdihdemgmaaMkL
import Derived.Test.YtlnpjdihdemgmaaMkI
import Derived.Test.YtlnpjdihdemgmaaRow
namespace Go.Proofs.Ytlnpjdihdemgmaa
open Go.RowKit
set_option linter.unusedVariables false

set_option maxRecDepth 100000 in
set_option maxHeartbeats 1000000 in
theorem text_long (a0 b0 : Int) (on : Bool) (sa : Option Addr) (len cap : Nat) (w : World) (hl : 60 < len) (hm : len ≤ 9223372036854775807) :
    Calls Try.prog 3 #[.int .i64 a0, .int .i64 b0, .bool on, .slice sa len cap] w fun e w' => e = .returned (.bool true) ∧ Below w.heap.size w w' := by
  have hl' : (60 : Int) < len := by omega
  go_enter Try.func3, Try.ntmps3
  go_wp2_with fail
  refine (lives_true w).mono ?_
  rintro e w1 ⟨rfl, hB1⟩
  go_wp2_with fail
  go_ret
  exact ⟨rfl, hB1⟩

set_option maxRecDepth 100000 in
set_option maxHeartbeats 4000000 in
theorem text_nil (size0 at0 : Int) (on : Bool) (sa : Option Addr) (cap : Nat) (w : World) :
    Calls Try.prog 3 #[.int .i64 size0, .int .i64 at0, .bool on, .slice sa 0 cap] w fun e w' => e = .returned (.bool true) ∧ Below w.heap.size w w' := by
  obtain ⟨p0, p1⟩ := pick_pos size0 200 (by omega)
  obtain ⟨p2, p3⟩ := pick_pos at0 (pickI size0 200 + 1) (by omega)
  go_enter Try.func3, Try.ntmps3
  go_wp2_with fail
  refine (lives_true w).mono ?_
  rintro e w1 ⟨rfl, hB1⟩
  go_wp2_with (go_at_call 12; refine (pick_any _ _ _ (by omega) (by omega)).mono ?_; rintro e w' ⟨rfl, rfl⟩)
  refine (new_any w1).mono ?_
  rintro e w2 ⟨rfl, h2, hB2, hz2⟩
  have hBw := up2 hB1 hB2
  have hle := hB1.size
  clear hB1 hB2
  have hpl : placeI (1 + pickI at0 (pickI size0 200 + 1)) = true := by simp [placeI]; omega
  generalize hsz : pickI size0 200 = sz at *
  generalize hat : 1 + pickI at0 (sz + 1) = a at *
  have ha1 : 1 ≤ a := by omega
  have ha2 : a ≤ sz + 1 := by omega
  clear p2 p3 hsz hat
  go_wp2_with fail
  refine (add_ok h2 a on hpl (by simp) (by decide) (by decide)).mono ?_
  rintro e w3 ⟨rfl, h3, ho3⟩
  have hBw3 := Only.fin hBw ho3 (by omega) (by omega)
  have hz3 : w1.heap.size + 2 ≤ w3.heap.size := by have := ho3.size; omega
  clear h2 hBw ho3 hz2
  obtain ⟨n, rfl⟩ := Int.eq_ofNat_of_zero_le p0
  go_wp2_with fail
  go_loopw [12, 13] (fun vt vi wr => ∃ k : Nat, k ≤ n ∧ vi = .int .i64 k ∧ IOwn w3.heap.size wr vt (upTo k) ∧ Below w3.heap.size w3 wr) (fun _ vi _ => n - (intOf vi).toNat)
  case atStart => exact ⟨0, by omega, rfl, IOwn.nil _ _, Below.refl _ _⟩
  case round =>
    obtain ⟨k, hk, rfl, hown, hbel⟩ := hrel
    have hsz2 := hbel.size
    by_cases hlt : k < n
    · obtain ⟨v', w', happ, hown', hb'⟩ := append_one hown (by omega) (k : Int) (by rw [upTo_length]; omega)
      rw [← upTo_succ] at hown'
      have hi : (k : Int) < (n : Int) := by omega
      have HP := Lib.hid happ
      clear happ
      go_wp2_with (at_builtin; refine wpList_append_run rfl _ _ _ rfl rfl rfl HP.out ?_)
      go_roundw
      case rel => exact ⟨k + 1, by omega, by go_num, hown', hbel.trans hb'⟩
      case measure => simp [intOf]; omega
    · have hkn : k = n := by omega
      subst hkn
      clear hlt
      go_wp2_with fail
      have hbw := hBw3.trans (hbel.mono (by omega : w.heap.size ≤ w3.heap.size))
      clear h3 hbel hBw3
      go_loopw [16] (fun vi wz => vi = .int .i64 0 ∧ wz = wr) (fun _ _ => 0)
      case atStart => exact ⟨rfl, rfl⟩
      case round =>
        obtain ⟨rfl, rfl⟩ := hrel
        go_wp2_with fail
        go_ret
        exact ⟨rfl, hbw⟩
end Go.Proofs.Ytlnpjdihdemgmaa
