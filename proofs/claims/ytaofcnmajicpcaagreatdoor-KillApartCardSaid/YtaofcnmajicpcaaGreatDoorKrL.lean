/- copyistlaw25.do: one act, in plain terms; light; lives; copyistkit.Pick. -/
import Derived.Test.YtaofcnmajicpcaaGreatDoorKrK
namespace Go.Proofs.YtaofcnmajicpcaaGreatDoor
open Go.RowKit
set_option linter.unusedVariables false
set_option linter.unusedSimpArgs false
/-- What copyistkit.Pick hands back. -/
def pickI (n most : Int) : Int := if most ≤ 0 then 0 else n % most
theorem pick_pos (n most : Int) (h : 0 < most) : 0 ≤ pickI n most ∧ pickI n most < most := by
  unfold pickI; rw [if_neg (by omega)]; exact ⟨Int.emod_nonneg _ (by omega), Int.emod_lt_of_pos _ h⟩

set_option maxHeartbeats 400000 in
theorem pick_any (n most : Int) (w : World) (h1 : 0 < most) (h2 : most ≤ 1000000) :
    Calls Tryz.prog 26 #[.int .i64 n, .int .i64 most] w fun e w' => e = .returned (.int .i64 (pickI n most)) ∧ w = w' := by
  have e1 : pickI n most = if n.tmod most < 0 then n.tmod most + most else n.tmod most := by
    unfold pickI
    rw [if_neg (by omega), Int.emod_eq_tmod]
    have hn : (most.natAbs : Int) = most := by omega
    by_cases h0 : 0 ≤ n
    · have := Int.tmod_nonneg most h0
      rw [if_pos (.inl h0), if_neg (by omega)]; omega
    · have hle : n.tmod most ≤ 0 := by
        have := Int.tmod_nonneg most (a := -n) (by omega)
        rw [Int.neg_tmod] at this; omega
      by_cases hd : most ∣ n
      · have := Int.tmod_eq_zero_of_dvd hd
        rw [if_pos (.inr hd), this]; simp
      · have hne : n.tmod most ≠ 0 := fun h => hd (Int.dvd_of_tmod_eq_zero h)
        rw [if_neg (by simp [hd]; omega), if_pos (by omega), hn]
  have b1 : -most < n.tmod most := by have := Int.lt_tmod_of_pos n h1; omega
  have b2 : n.tmod most < most := Int.tmod_lt_of_pos n h1
  have H1 := Lib.hid e1
  clear e1
  have hz : ¬ most = 0 := by omega
  by_cases hneg : n.tmod most < 0
  all_goals
    go_enter Tryz.func26, Tryz.ntmps26
    go_wp2
    go_ret
    exact ⟨ret_int (by rw [H1.out]; first | rw [if_pos (by omega)] | rw [if_neg (by omega)]), rfl⟩


/-- An act. -/
structure KAct where
  kind : Int
  n : Int
  text : ByteArray
  ahead : Bool
abbrev encA (a : KAct) : List Value := [.int .i64 a.kind, .int .i64 a.n, .string a.text, .bool a.ahead]
theorem eltA : Elt encA 22 25 4 40 (.agg #[.int .i64 0, .int .i64 0, .string ⟨#[]⟩, .bool false]) :=
  ⟨Tryz.underlying22, by kernel_rfl, rfl, by omega, fun _ => rfl, fun x u hu => by simp at hu; rcases hu with rfl | rfl | rfl | rfl <;> rfl⟩
/-- What an act hands back and leaves. -/
structure KR where
  x : ByteArray
  err : Nat
  L : List ByteArray
  at_ : Nat
def killK (most : Nat) (L : List ByteArray) (at_ : Nat) (s : ByteArray) : KR := if vld s = true then ⟨⟨#[]⟩, 0, (s :: L).take most, 0⟩ else ⟨⟨#[]⟩, 5, L, at_⟩
def appK (most : Nat) (L : List ByteArray) (at_ : Nat) (s : ByteArray) (ahead : Bool) : KR :=
  if L.length = 0 then killK most L at_ s else if vld s = true then ⟨⟨#[]⟩, 0, catB s (L.getD 0 ByteArray.empty) ahead :: L.tail, 0⟩ else ⟨⟨#[]⟩, 5, L, at_⟩
def yankK (L : List ByteArray) (at_ : Nat) (k : Int) : KR := if L.length = 0 then ⟨⟨#[]⟩, 13, L, at_⟩ else ⟨L.getD (turnTo L.length at_ (k.tmod L.length - 1)) ByteArray.empty, 0, L, turnTo L.length at_ (k.tmod L.length - 1)⟩
def popK (L : List ByteArray) (at_ : Nat) (k : Int) : KR := if L.length = 0 then ⟨⟨#[]⟩, 13, L, at_⟩ else ⟨L.getD (turnTo L.length at_ (k.tmod L.length)) ByteArray.empty, 0, L, turnTo L.length at_ (k.tmod L.length)⟩
def doK (most : Nat) (L : List ByteArray) (at_ : Nat) (a : KAct) : KR :=
  if pickI a.kind 6 = 0 ∨ pickI a.kind 6 = 1 then killK most L at_ a.text else if pickI a.kind 6 = 2 then appK most L at_ a.text a.ahead else if pickI a.kind 6 = 3 then yankK L at_ a.n else popK L at_ a.n
section
variable {w w' : World} {b N : Nat} {L : List ByteArray} {most at_ : Nat}
def KPost1 (w : World) (b most : Nat) (r : KR) (e : Ending) (w' : World) : Prop := e = .returned (.int .i64 r.err) ∧ Ring w' b r.L most r.at_ ∧ Only (· = b) w w'
def KPost2 (w : World) (b most : Nat) (r : KR) (e : Ending) (w' : World) : Prop := e = .returned (.tuple #[.string r.x, .int .i64 r.err]) ∧ Ring w' b r.L most r.at_ ∧ Only (· = b) w w'
theorem Ring.cKill (h : Ring w b L most at_) (s : ByteArray) (hs : s.size ≤ 1000000000) (hT : Tabs N w) : Calls Tryz.prog 22 #[.pointer (some ⟨b, 0, none⟩), .string s] w (KPost1 w b most (killK most L at_ s)) := by
  unfold killK
  by_cases hv : vld s = true
  · rw [if_pos hv]; exact h.kill_ok s hs hT hv
  · rw [if_neg hv]; exact h.kill_bad s hs hT (by simpa using hv)
theorem nil_of_len {L : List ByteArray} (h : L.length = 0) : L = [] := List.eq_nil_of_length_eq_zero h
theorem Ring.cApp (h : Ring w b L most at_) (s : ByteArray) (ahead : Bool) (hs : s.size + (L.getD 0 ByteArray.empty).size ≤ 65536) (hT : Tabs N w) (hN : N ≤ b) : Calls Tryz.prog 27 #[.pointer (some ⟨b, 0, none⟩), .string s, .bool ahead] w (KPost1 w b most (appK most L at_ s ahead)) := by
  unfold appK
  by_cases h0 : L.length = 0
  · rw [if_pos h0]
    obtain rfl := nil_of_len h0
    have ha : at_ = 0 := by have := h.len; simp at this; omega
    subst ha
    have hk := h.cKill s (by omega) hT
    unfold killK at hk ⊢
    by_cases hv : vld s = true
    · rw [if_pos hv] at hk ⊢; exact h.app_nil (N := N) s ahead 0 _ (Lib.hid hk)
    · rw [if_neg hv] at hk ⊢; exact h.app_nil (N := N) s ahead 5 _ (Lib.hid hk)
  · rw [if_neg h0]
    by_cases hv : vld s = true
    · rw [if_pos hv]; exact h.app_ok (by omega) s ahead hs hT hN hv
    · rw [if_neg hv]; exact h.app_bad (by omega) s ahead (by omega) hT hN (by simpa using hv)
theorem Ring.cYank (h : Ring w b L most at_) (k : Int) : Calls Tryz.prog 23 #[.pointer (some ⟨b, 0, none⟩), .int .i64 k] w (KPost2 w b most (yankK L at_ k)) := by
  unfold yankK
  by_cases h0 : L.length = 0
  · rw [if_pos h0]
    obtain rfl := nil_of_len h0
    exact (h.yank0 k).mono fun e w' ⟨he, hw⟩ => ⟨he, hw ▸ h, hw ▸ Only.refl _ _⟩
  · rw [if_neg h0]; exact h.yank (by omega) k
theorem Ring.cPop (h : Ring w b L most at_) (k : Int) : Calls Tryz.prog 24 #[.pointer (some ⟨b, 0, none⟩), .int .i64 k] w (KPost2 w b most (popK L at_ k)) := by
  unfold popK
  by_cases h0 : L.length = 0
  · rw [if_pos h0]
    obtain rfl := nil_of_len h0
    exact (h.pop0 k).mono fun e w' ⟨he, hw⟩ => ⟨he, hw ▸ h, hw ▸ Only.refl _ _⟩
  · rw [if_neg h0]; exact h.pop (by omega) k
theorem killK_x (most : Nat) (L : List ByteArray) (at_ : Nat) (s : ByteArray) : (killK most L at_ s).x = ⟨#[]⟩ := by unfold killK; split <;> rfl
theorem appK_x (most : Nat) (L : List ByteArray) (at_ : Nat) (s : ByteArray) (ahead : Bool) : (appK most L at_ s ahead).x = ⟨#[]⟩ := by
  unfold appK; split
  · exact killK_x _ _ _ _
  · split <;> rfl
set_option maxRecDepth 100000 in
set_option maxHeartbeats 1000000 in
theorem Ring.cDo (h : Ring w b L most at_) (a : KAct) (hs : a.text.size + (L.getD 0 ByteArray.empty).size ≤ 65536) (hT : Tabs N w) (hN : N ≤ b) :
    Calls Tryz.prog 7 #[.pointer (some ⟨b, 0, none⟩), .agg #[.int .i64 a.kind, .int .i64 a.n, .string a.text, .bool a.ahead]] w (KPost2 w b most (doK most L at_ a)) := by
  obtain ⟨kind, n, text, ahead⟩ := a
  dsimp only at hs
  have hp := pick_pos kind 6 (by omega)
  have hpk := fun w1 => pick_any kind 6 w1 (by omega) (by omega)
  unfold doK
  dsimp only
  generalize pickI kind 6 = p at *
  have HPK := Lib.hid hpk
  clear hpk
  have HK : ∀ w1, Below w.heap.size w w1 → Calls Tryz.prog 22 #[.pointer (some ⟨b, 0, none⟩), .string text] w1 (KPost1 w1 b most (killK most L at_ text)) := fun w1 hb => (h.up hb).cKill text (by omega) (hT.up hb)
  have HA : ∀ w1, Below w.heap.size w w1 → Calls Tryz.prog 27 #[.pointer (some ⟨b, 0, none⟩), .string text, .bool ahead] w1 (KPost1 w1 b most (appK most L at_ text ahead)) := fun w1 hb => (h.up hb).cApp text ahead hs (hT.up hb) hN
  have HY : ∀ w1, Below w.heap.size w w1 → Calls Tryz.prog 23 #[.pointer (some ⟨b, 0, none⟩), .int .i64 n] w1 (KPost2 w1 b most (yankK L at_ n)) := fun w1 hb => (h.up hb).cYank n
  have HP : ∀ w1, Below w.heap.size w w1 → Calls Tryz.prog 24 #[.pointer (some ⟨b, 0, none⟩), .int .i64 n] w1 (KPost2 w1 b most (popK L at_ n)) := fun w1 hb => (h.up hb).cPop n
  have HK' := Lib.hid HK
  have HA' := Lib.hid HA
  have HY' := Lib.hid HY
  have HP' := Lib.hid HP
  have hx1 := killK_x most L at_ text
  have hx2 := appK_x most L at_ text ahead
  generalize killK most L at_ text = r1 at *
  generalize appK most L at_ text ahead = r2 at *
  generalize yankK L at_ n = r3 at *
  generalize popK L at_ n = r4 at *
  have HX1 := Lib.hid hx1
  have HX2 := Lib.hid hx2
  clear HK HA HY HP h hT hx1 hx2
  obtain rfl | rfl | rfl | rfl | rfl | rfl : p = 0 ∨ p = 1 ∨ p = 2 ∨ p = 3 ∨ p = 4 ∨ p = 5 := by omega
  · rw [if_pos (by omega)]
    go_enter Tryz.func7, Tryz.ntmps7
    go_wp2_with fail
    refine (HPK.out _).mono ?_
    rintro e w' ⟨rfl, rfl⟩
    go_wp2_with fail
    refine (HK'.out _ (below1 w _)).mono ?_
    rintro e w' ⟨rfl, hr, ho⟩
    go_wp2_with fail
    go_ret2
    exact ⟨by rw [HX1.out]; rfl, hr, (Only.of_below (below1 w _)).then ho (fun i hi _ => hi)⟩
  · rw [if_pos (by omega)]
    go_enter Tryz.func7, Tryz.ntmps7
    go_wp2_with fail
    refine (HPK.out _).mono ?_
    rintro e w' ⟨rfl, rfl⟩
    go_wp2_with fail
    refine (HK'.out _ (below1 w _)).mono ?_
    rintro e w' ⟨rfl, hr, ho⟩
    go_wp2_with fail
    go_ret2
    exact ⟨by rw [HX1.out]; rfl, hr, (Only.of_below (below1 w _)).then ho (fun i hi _ => hi)⟩
  · rw [if_neg (by omega), if_pos (by omega)]
    go_enter Tryz.func7, Tryz.ntmps7
    go_wp2_with fail
    refine (HPK.out _).mono ?_
    rintro e w' ⟨rfl, rfl⟩
    go_wp2_with fail
    refine (HA'.out _ (below1 w _)).mono ?_
    rintro e w' ⟨rfl, hr, ho⟩
    go_wp2_with fail
    go_ret2
    exact ⟨by rw [HX2.out]; rfl, hr, (Only.of_below (below1 w _)).then ho (fun i hi _ => hi)⟩
  · rw [if_neg (by omega), if_neg (by omega), if_pos (by omega)]
    go_enter Tryz.func7, Tryz.ntmps7
    go_wp2_with fail
    refine (HPK.out _).mono ?_
    rintro e w' ⟨rfl, rfl⟩
    go_wp2_with fail
    refine (HY'.out _ (below1 w _)).mono ?_
    rintro e w' ⟨rfl, hr, ho⟩
    go_wp2_with fail
    go_ret2
    exact ⟨rfl, hr, (Only.of_below (below1 w _)).then ho (fun i hi _ => hi)⟩
  · rw [if_neg (by omega), if_neg (by omega), if_neg (by omega)]
    go_enter Tryz.func7, Tryz.ntmps7
    go_wp2_with fail
    refine (HPK.out _).mono ?_
    rintro e w' ⟨rfl, rfl⟩
    go_wp2_with fail
    refine (HP'.out _ (below1 w _)).mono ?_
    rintro e w' ⟨rfl, hr, ho⟩
    go_wp2_with fail
    go_ret2
    exact ⟨rfl, hr, (Only.of_below (below1 w _)).then ho (fun i hi _ => hi)⟩
  · rw [if_neg (by omega), if_neg (by omega), if_neg (by omega)]
    go_enter Tryz.func7, Tryz.ntmps7
    go_wp2_with fail
    refine (HPK.out _).mono ?_
    rintro e w' ⟨rfl, rfl⟩
    go_wp2_with fail
    refine (HP'.out _ (below1 w _)).mono ?_
    rintro e w' ⟨rfl, hr, ho⟩
    go_wp2_with fail
    go_ret2
    exact ⟨rfl, hr, (Only.of_below (below1 w _)).then ho (fun i hi _ => hi)⟩
end
end Go.Proofs.YtaofcnmajicpcaaGreatDoor
