/- package column: IndentText; look and its callers without a buffer. -/
import Derived.Test.YtklaeecegkpgmaaGreatDoorJn
import Derived.Test.YtklaeecegkpgmaaGreatDoorLayK
import Derived.Shelf.Strings.Repeat
namespace Go.Proofs.YtklaeecegkpgmaaGreatDoor
open Go.RowKit
set_option linter.unusedVariables false
set_option linter.unusedSimpArgs false
theorem repExtra : Builder.Extra Tryz.prog Tryz.laysRepeat_ren where
  sizeBuilder := by kernel_rfl
  liesBuilder := by kernel_rfl
  t5 := Tryz.underlying5
  a5 := Tryz.isAgg5
  z5 := Tryz.sizeOf5
  v5 := Tryz.zeroValue5
  infoByte := by kernel_rfl
  cellsByte := by kernel_rfl
  sizeByte := by kernel_rfl
  neB5 := by decide
/-- n copies of a byte. -/
def repB (c : UInt8) (n : Nat) : ByteArray := ⟨(List.replicate n c).toArray⟩
theorem repeatL_one (c : UInt8) : ∀ n, Lib.repeatL [c] n = List.replicate n c
  | 0 => rfl
  | n + 1 => by
    have := repeatL_one c n
    simp [Lib.repeatL, List.replicate_succ] at this ⊢
    first | exact this | simp [this]
theorem repeat_ok (c : UInt8) (n : Nat) (hn : n ≤ 1000000) (w : World) : Calls Tryz.prog 70 #[.string ⟨#[c]⟩, .int .i64 n] w fun e w' => e = .returned (.string (repB c n)) ∧ Below w.heap.size w w' := by
  have := Any.strings_Repeat Tryz.laysRepeat repExtra ⟨#[c]⟩ n w (by omega) (by show 1 * n ≤ _; omega)
  refine this.mono ?_
  rintro e w' ⟨he, hb⟩
  refine ⟨?_, hb⟩
  rw [he]
  unfold repB
  rw [← repeatL_one]
theorem repB_size (c : UInt8) (n : Nat) : (repB c n).size = n := by simp [repB, ByteArray.size]
/-- The tabs of an indentation. -/
def tabsN (col tab : Nat) (tabs : Bool) : Nat := if tabs then col / tab else 0
def indT (col tab : Nat) (tabs : Bool) : ByteArray := repB 9 (tabsN col tab tabs) ++ repB 32 (col - tabsN col tab tabs * tab)
section
variable {w w' : World}
theorem tabbed_no (tab : Int) (h : tab < 1 ∨ 64 < tab) (w : World) : Calls Tryz.prog 20 #[.int .i64 tab] w fun e w' => e = .returned (.bool false) ∧ w = w' := by
  by_cases h1 : tab < 1
  · have d1 : decide ((1 : Int) ≤ tab) = false := decide_eq_false (by omega)
    clear h h1
    go_enter Tryz.func20, Tryz.ntmps20
    go_wp2_with fail
    go_ret
    exact ⟨rfl, rfl⟩
  · have d1 : decide ((1 : Int) ≤ tab) = true := decide_eq_true (by omega)
    have d2 : decide (tab ≤ (64 : Int)) = false := decide_eq_false (by omega)
    clear h h1
    go_enter Tryz.func20, Tryz.ntmps20
    go_wp2_with fail
    go_ret
    exact ⟨rfl, rfl⟩
set_option maxHeartbeats 2000000 in
theorem itext_no (col tab : Int) (tabs : Bool) (h : col < 0 ∨ 1000 < col ∨ tab < 1 ∨ 64 < tab) (w : World) : Calls Tryz.prog 37 #[.int .i64 col, .int .i64 tab, .bool tabs] w fun e w' => e = .returned (.tuple #[.string ⟨#[]⟩, .int .i64 2]) ∧ w = w' := by
  by_cases h1 : col < 0
  · have d1 : decide (col < (0 : Int)) = true := decide_eq_true h1
    clear h h1
    go_enter Tryz.func37, Tryz.ntmps37
    go_wp2_with fail
    go_ret2
    exact ⟨rfl, rfl⟩
  · have d1 : decide (col < (0 : Int)) = false := decide_eq_false h1
    by_cases h2 : 1000 < col
    · have d2 : decide ((1000 : Int) < col) = true := decide_eq_true h2
      clear h h1 h2
      go_enter Tryz.func37, Tryz.ntmps37
      go_wp2_with fail
      go_ret2
      exact ⟨rfl, rfl⟩
    · have d2 : decide ((1000 : Int) < col) = false := decide_eq_false h2
      have HT := Lib.hid (tabbed_no tab (by omega) w)
      clear h h1 h2
      go_enter Tryz.func37, Tryz.ntmps37
      go_wp2_with fail
      refine HT.out.mono ?_
      rintro e w' ⟨rfl, rfl⟩
      go_wp2_with fail
      go_ret2
      exact ⟨rfl, rfl⟩
set_option maxHeartbeats 2000000 in
theorem itext_ok (col tab : Nat) (tabs : Bool) (h1 : col ≤ 1000) (h2 : 1 ≤ tab) (h3 : tab ≤ 64) (w : World) : Calls Tryz.prog 37 #[.int .i64 col, .int .i64 tab, .bool tabs] w fun e w' => e = .returned (.tuple #[.string (indT col tab tabs), .int .i64 0]) ∧ Below w.heap.size w w' := by
  have d1 : decide ((col : Int) < (0 : Int)) = false := decide_eq_false (by omega)
  have d2 : decide ((1000 : Int) < (col : Int)) = false := decide_eq_false (by omega)
  have HT := Lib.hid (tabbed_ok tab h2 h3 w)
  have hn : tabsN col tab tabs * tab ≤ col := by
    unfold tabsN
    split
    · exact Nat.div_mul_le_self _ _
    · omega
  have hn2 : tabsN col tab tabs ≤ 1000 := by
    unfold tabsN
    split
    · exact Nat.le_trans (Nat.div_le_self _ _) h1
    · omega
  have hq : tabs = true → (col : Int).tdiv tab = ((tabsN col tab tabs : Nat) : Int) := fun h => by unfold tabsN; rw [if_pos h]; simp
  have hq2 : tabs = true → (col : Int) / tab = ((tabsN col tab tabs : Nat) : Int) := fun h => by unfold tabsN; rw [if_pos h]; simp
  have hz : tabs = false → tabsN col tab tabs = 0 := fun h => by unfold tabsN; rw [if_neg (by simp [h])]
  unfold indT
  obtain ⟨n, hnn⟩ : ∃ n, n = tabsN col tab tabs := ⟨_, rfl⟩
  rw [← hnn] at hn hn2 hq hq2 hz ⊢
  obtain ⟨m, hm⟩ : ∃ m, m = n * tab := ⟨_, rfl⟩
  rw [← hm] at hn ⊢
  have hmm : (n : Int) * (tab : Int) = (m : Int) := by rw [hm]; simp
  obtain ⟨k, hk⟩ : ∃ k, k = col - m := ⟨_, rfl⟩
  rw [← hk]
  have s1 : IntKind.i64.wrap ((n : Int) * (tab : Int)) = (m : Int) := by rw [hmm]; exact IntWalk.i64_in _ (by omega)
  have s2 : IntKind.i64.wrap ((col : Int) - (m : Int)) = (k : Int) := by rw [IntWalk.i64_in _ (by omega)]; omega
  have R1 := Lib.hid (fun w => repeat_ok 9 n (by omega) w)
  have R2 := Lib.hid (fun w => repeat_ok 32 k (by omega) w)
  have hs1 := repB_size 9 n
  have hs2 := repB_size 32 k
  have hne : ((tab : Int) == 0) = false := by simp; omega
  have hne2 : (tab = 0) = False := eq_false (by omega)
  have HS := Lib.hid (⟨hs1, hs2, hn2, h1, hk, hm⟩ : _ ∧ _ ∧ _ ∧ _ ∧ _ ∧ _)
  cases tabs with
  | true =>
    have q1 := hq rfl
    have q2 := hq2 rfl
    have s3 : IntKind.i64.wrap ((n : Nat) : Int) = (n : Int) := IntWalk.i64_in _ (by omega)
    clear hq hq2 hz hmm hn hn2 hs1 hs2 hk hm hnn h1 h2 h3
    go_enter Tryz.func37, Tryz.ntmps37
    go_wp2_with fail
    refine HT.out.mono ?_
    rintro e w' ⟨rfl, rfl⟩
    go_wp2_with fail
    refine (R1.out w).mono ?_
    rintro e w1 ⟨rfl, hb1⟩
    have B1 := Lib.hid hb1
    clear hb1
    go_wp2_with fail
    refine (R2.out w1).mono ?_
    rintro e w2 ⟨rfl, hb2⟩
    have B2 := Lib.hid (up2 B1.out hb2)
    clear hb2
    have hadd : (9223372036854775807 < (repB 9 n).size + (repB 32 k).size) = False := eq_false (by have := HS.out; omega)
    go_wp2_with fail
    go_ret2
    exact ⟨rfl, B2.out⟩
  | false =>
    obtain rfl := hz rfl
    have hm0 : m = 0 := by rw [hm]; simp
    have hk0 : k = col := by omega
    subst hk0
    have R1' := Lib.hid (fun w => (R1.out w : Calls Tryz.prog 70 #[.string ⟨#[9]⟩, .int .i64 0] w _))
    have R2' := Lib.hid (fun w => (R2.out w : Calls Tryz.prog 70 #[.string ⟨#[32]⟩, .int .i64 k] w _))
    have s3 : IntKind.i64.wrap (k : Int) = (k : Int) := IntWalk.i64_in _ (by omega)
    clear hq hq2 hz hmm hn hn2 hs1 hs2 hk hm hnn h1 h2 h3 hm0 s1 s2 R1 R2
    go_enter Tryz.func37, Tryz.ntmps37
    go_wp2_with fail
    refine HT.out.mono ?_
    rintro e w' ⟨rfl, rfl⟩
    go_wp2_with fail
    refine (R1'.out w).mono ?_
    rintro e w1 ⟨rfl, hb1⟩
    have B1 := Lib.hid hb1
    clear hb1
    go_wp2_with fail
    refine (R2'.out w1).mono ?_
    rintro e w2 ⟨rfl, hb2⟩
    have B2 := Lib.hid (up2 B1.out hb2)
    clear hb2
    have hadd : (9223372036854775807 < (repB 9 0).size + (repB 32 k).size) = False := eq_false (by have := HS.out; omega)
    go_wp2_with fail
    go_ret2
    exact ⟨rfl, B2.out⟩
/-- Some indentation, or none. -/
theorem itext_any (col tab : Int) (tabs : Bool) (w : World) : Calls Tryz.prog 37 #[.int .i64 col, .int .i64 tab, .bool tabs] w fun e w' => ∃ s x, e = .returned (.tuple #[.string s, .int .i64 x]) ∧ Below w.heap.size w w' := by
  by_cases h : col < 0 ∨ 1000 < col ∨ tab < 1 ∨ 64 < tab
  · exact (itext_no col tab tabs h w).mono fun e w' ⟨he, hw⟩ => ⟨_, _, he, hw ▸ Below.refl _ _⟩
  · obtain ⟨c, rfl⟩ : ∃ c : Nat, col = c := ⟨col.toNat, by omega⟩
    obtain ⟨t, rfl⟩ : ∃ t : Nat, tab = t := ⟨tab.toNat, by omega⟩
    exact (itext_ok c t tabs (by omega) (by omega) (by omega) w).mono fun e w' ⟨he, hw⟩ => ⟨_, _, he, hw⟩
end
end Go.Proofs.YtklaeecegkpgmaaGreatDoor
