/- What a ring answers. -/
import Derived.Test.YtnbccoelbfgmgaaGreatDoorRkH
namespace Go.Proofs.YtnbccoelbfgmgaaGreatDoor
open Go.RowKit
set_option linter.unusedVariables false
/-- What an act hands back and leaves. -/
structure KR where
  x : ByteArray
  err : Nat
  L : List ByteArray
  at_ : Nat
def killK (most : Nat) (L : List ByteArray) (at_ : Nat) (s : ByteArray) : KR := if vld s = true then ⟨⟨#[]⟩, 0, (s :: L).take most, 0⟩ else ⟨⟨#[]⟩, 5, L, at_⟩
def appK (most : Nat) (L : List ByteArray) (at_ : Nat) (s : ByteArray) (ahead : Bool) : KR :=
  if L.length = 0 then killK most L at_ s else if vld s = true then ⟨⟨#[]⟩, 0, catB s (L.getD 0 ByteArray.empty) ahead :: L.tail, 0⟩ else ⟨⟨#[]⟩, 5, L, at_⟩
def yankK (L : List ByteArray) (at_ : Nat) (k : Int) : KR := if L.length = 0 then ⟨⟨#[]⟩, 13, L, at_⟩ else ⟨L.getD (turnTo L.length at_ (k.tmod L.length - 1)) ByteArray.empty, 0, L, turnTo L.length at_ (k.tmod L.length - 1)⟩
def popK (L : List ByteArray) (at_ : Nat) (k : Int) : KR := if L.length = 0 then ⟨⟨#[]⟩, 13, L, at_⟩ else ⟨L.getD (turnTo L.length at_ (k.tmod L.length)) ByteArray.empty, 0, L, turnTo L.length at_ (k.tmod L.length)⟩
section
variable {w w' : World} {b most at_ N : Nat} {L : List ByteArray}
def KPost1 (w : World) (b most : Nat) (r : KR) (e : Ending) (w' : World) : Prop := e = .returned (.int .i64 r.err) ∧ Ring w' b r.L most r.at_ ∧ Only (· = b) w w'
def KPost2 (w : World) (b most : Nat) (r : KR) (e : Ending) (w' : World) : Prop := e = .returned (.tuple #[.string r.x, .int .i64 r.err]) ∧ Ring w' b r.L most r.at_ ∧ Only (· = b) w w'
theorem Ring.cKill (h : Ring w b L most at_) (s : ByteArray) (hs : s.size ≤ 1000000000) (hT : Tabs N w) : Calls Tryz.prog 10 #[.pointer (some ⟨b, 0, none⟩), .string s] w (KPost1 w b most (killK most L at_ s)) := by
  unfold killK
  by_cases hv : vld s = true
  · rw [if_pos hv]; exact h.kill_ok s hs hT hv
  · rw [if_neg hv]; exact h.kill_bad s hs hT (by simpa using hv)
theorem nil_of_len {L : List ByteArray} (h : L.length = 0) : L = [] := List.eq_nil_of_length_eq_zero h
theorem Ring.cApp (h : Ring w b L most at_) (s : ByteArray) (ahead : Bool) (hs : s.size + (L.getD 0 ByteArray.empty).size ≤ 65536) (hT : Tabs N w) (hN : N ≤ b) : Calls Tryz.prog 8 #[.pointer (some ⟨b, 0, none⟩), .string s, .bool ahead] w (KPost1 w b most (appK most L at_ s ahead)) := by
  unfold appK
  by_cases h0 : L.length = 0
  · rw [if_pos h0]
    obtain rfl := nil_of_len h0
    have ha : at_ = 0 := by have := h.len; simp at this; omega
    subst ha
    have hk := h.cKill s (by omega) hT
    unfold killK at hk ⊢
    by_cases hv : vld s = true
    · rw [if_pos hv] at hk ⊢; exact h.app_nil (N := N) s ahead 0 _ (Lib.hid hk)
    · rw [if_neg hv] at hk ⊢; exact h.app_nil (N := N) s ahead 5 _ (Lib.hid hk)
  · rw [if_neg h0]
    by_cases hv : vld s = true
    · rw [if_pos hv]; exact h.app_ok (by omega) s ahead hs hT hN hv
    · rw [if_neg hv]; exact h.app_bad (by omega) s ahead (by omega) hT hN (by simpa using hv)
theorem Ring.cYank (h : Ring w b L most at_) (k : Int) : Calls Tryz.prog 9 #[.pointer (some ⟨b, 0, none⟩), .int .i64 k] w (KPost2 w b most (yankK L at_ k)) := by
  unfold yankK
  by_cases h0 : L.length = 0
  · rw [if_pos h0]
    obtain rfl := nil_of_len h0
    exact (h.yank0 k).mono fun e w' ⟨he, hw⟩ => ⟨he, hw ▸ h, hw ▸ Only.refl _ _⟩
  · rw [if_neg h0]; exact h.yank (by omega) k
theorem Ring.cPop (h : Ring w b L most at_) (k : Int) : Calls Tryz.prog 35 #[.pointer (some ⟨b, 0, none⟩), .int .i64 k] w (KPost2 w b most (popK L at_ k)) := by
  unfold popK
  by_cases h0 : L.length = 0
  · rw [if_pos h0]
    obtain rfl := nil_of_len h0
    exact (h.pop0 k).mono fun e w' ⟨he, hw⟩ => ⟨he, hw ▸ h, hw ▸ Only.refl _ _⟩
  · rw [if_neg h0]; exact h.pop (by omega) k
end
end Go.Proofs.YtnbccoelbfgmgaaGreatDoor
