/- Plain: popping once for each string of a ring visits every string. -/
import Derived.Test.YtmnmloebomlllaaDoorKrM
namespace Go.Proofs.YtmnmloebomlllaaDoor
open Go.RowKit
set_option linter.unusedVariables false
set_option linter.unusedSimpArgs false
/-- The strings that are still to come behind place at_ + i. -/
def restS (L : List ByteArray) (at_ i : Nat) : List ByteArray := (List.range (L.length - i)).map fun j => L.getD ((at_ + i + 1 + j) % L.length) ByteArray.empty
theorem restS_step (L : List ByteArray) (at_ i : Nat) (h : i < L.length) : restS L at_ i = L.getD ((at_ + i + 1) % L.length) ByteArray.empty :: restS L at_ (i + 1) := by
  unfold restS
  rw [show L.length - i = (L.length - (i + 1)) + 1 by omega, List.range_succ_eq_map, List.map_cons, List.map_map]
  congr 1
  apply List.map_congr_left
  intro j _
  simp only [Function.comp, Nat.succ_eq_add_one]
  congr 2; omega
theorem restS_len (L : List ByteArray) (at_ i : Nat) : (restS L at_ i).length = L.length - i := by simp [restS]
theorem restS_zero (L : List ByteArray) (at_ : Nat) (h : 0 < L.length) : L.Perm (restS L at_ 0) := by
  have ha : (at_ + 1) % L.length < L.length := Nat.mod_lt _ h
  have e : restS L at_ 0 = L.drop ((at_ + 1) % L.length) ++ L.take ((at_ + 1) % L.length) := by
    apply List.ext_getElem?
    intro j
    unfold restS
    by_cases hj : j < L.length
    · have h1 : (List.map (fun j => L.getD ((at_ + 0 + 1 + j) % L.length) ByteArray.empty) (List.range (L.length - 0)))[j]? = some (L.getD ((at_ + 0 + 1 + j) % L.length) ByteArray.empty) := by
        simp [hj]
      rw [h1]
      have hm : (at_ + 0 + 1 + j) % L.length = ((at_ + 1) % L.length + j) % L.length := by rw [Nat.add_zero, Nat.mod_add_mod]
      rw [hm]
      generalize (at_ + 1) % L.length = a at *
      by_cases h2 : a + j < L.length
      · rw [List.getElem?_append_left (by rw [List.length_drop]; omega), List.getElem?_drop, Nat.mod_eq_of_lt h2, List.getD_eq_getElem?_getD, List.getElem?_eq_getElem h2]; rfl
      · have h3 : (a + j) % L.length = a + j - L.length := by
          rw [show a + j = (a + j - L.length) + L.length by omega, Nat.add_mod_right, Nat.mod_eq_of_lt (by omega)]; omega
        rw [List.getElem?_append_right (by rw [List.length_drop]; omega), List.length_drop, List.getElem?_take_of_lt (by omega), h3, List.getD_eq_getElem?_getD, show j - (L.length - a) = a + j - L.length by omega, List.getElem?_eq_getElem (by omega : a + j - L.length < L.length)]
        rfl
    · rw [List.getElem?_eq_none (by simp; omega), List.getElem?_eq_none (by simp; omega)]
  rw [e]
  conv => lhs; rw [← List.take_append_drop ((at_ + 1) % L.length) L]
  exact List.perm_append_comm
theorem erase_perm {left R : List ByteArray} {x : ByteArray} {k : Nat} (hk : k < left.length) (hx : left[k] = x) (h : left.Perm (x :: R)) : (left.take k ++ left.drop (k + 1)).Perm R := by
  have e : left = left.take k ++ x :: left.drop (k + 1) := by
    conv => lhs; rw [← List.take_append_drop k left]
    rw [List.drop_eq_getElem_cons hk, hx]
  have h2 : left.Perm (x :: (left.take k ++ left.drop (k + 1))) := by
    conv => lhs; rw [e]
    exact List.perm_middle
  exact List.Perm.cons_inv (h2.symm.trans h)
theorem turn_one (n at_ : Nat) (hn : 0 < n) (hat : at_ < n) : turnTo n at_ ((1 : Int).tmod n) = (at_ + 1) % n := by
  rw [turn_tmod _ _ _ hn]; unfold turnTo
  rw [show ((at_ : Int) + 1) % (n : Int) = (((at_ + 1) % n : Nat) : Int) from by rw [Int.natCast_emod]; rfl]; rfl
theorem turn_yank (n at_ : Nat) (hn : 0 < n) (hat : at_ < n) : turnTo n at_ ((1 : Int).tmod n - 1) = at_ := by
  unfold turnTo
  rcases Nat.lt_or_ge 1 n with h | h
  · have e : (1 : Int).tmod n = 1 := by rw [Int.tmod_eq_emod_of_nonneg (by omega), Int.emod_eq_of_lt (by omega) (by omega)]
    rw [e, Int.sub_self, Int.add_zero, Int.emod_eq_of_lt (by omega) (by omega)]; omega
  · obtain rfl : n = 1 := by omega
    omega
theorem turn_back (n at_ : Nat) (k : Int) (hn : 0 < n) (hat : at_ < n) : turnTo n (turnTo n at_ (k.tmod n)) ((-k).tmod n) = at_ := by
  rw [turn_tmod _ _ _ hn, turn_tmod _ _ _ hn]
  unfold turnTo
  have h1 := Int.emod_nonneg ((at_ : Int) + k) (by omega : (n : Int) ≠ 0)
  rw [Int.toNat_of_nonneg h1, Int.emod_add_emod, show (at_ : Int) + k + -k = at_ by omega, Int.emod_eq_of_lt (by omega) (by omega)]
  omega
theorem str_ne {x y : ByteArray} (h : ¬ y = x) : (y.toList == x.toList) = false := by
  rw [ByteArray.toList_eq, ByteArray.toList_eq, beq_eq_false_iff_ne]
  exact fun e => h (Go.WideShapes.bytes_inj e)
end Go.Proofs.YtmnmloebomlllaaDoor
