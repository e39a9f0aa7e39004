/- package column: what fill reads of its string. -/
import Derived.Test.YtphdkcdkhklicaaGreatDoorCfE
import Derived.Test.YtphdkcdkhklicaaGreatDoorCfH
import Derived.Test.YtphdkcdkhklicaaGreatDoorZ17
import Derived.Shelf.Strings.SlTrimAscii
import Derived.Shelf.Strings.Prefix
namespace Go.Proofs.YtphdkcdkhklicaaGreatDoor
open Go.RowKit Go.Lib
set_option linter.unusedVariables false
set_option linter.unusedSimpArgs false
theorem trim_enc : ∀ (cs : List Nat), (∀ c ∈ cs, isN c) → (encL cs).dropWhile (fun b => ([32, 9] : List UInt8).contains b) = encL (cs.dropWhile isT)
  | [], _ => rfl
  | c :: cs, h => by
    have hc := h c List.mem_cons_self
    by_cases ht : isT c = true
    · have hc2 : c = 32 ∨ c = 9 := by unfold isT at ht; simpa using ht
      have ih := trim_enc cs (fun x hx => h x (List.mem_cons_of_mem _ hx))
      rw [encL_cons, List.dropWhile_cons_of_pos ht, ← ih, enc1 hc (by omega)]
      rcases hc2 with rfl | rfl <;> rfl
    · obtain ⟨u, r, e, hu⟩ := enc_head hc
      have hc2 : ¬ (c = 32 ∨ c = 9) := by unfold isT at ht; simpa using ht
      have hn : ([32, 9] : List UInt8).contains u = false := by
        have h1 : u ≠ 32 := fun q => by rw [q] at hu; simp at hu; omega
        have h2 : u ≠ 9 := fun q => by rw [q] at hu; simp at hu; omega
        simp [h1, h2]
      rw [List.dropWhile_cons_of_neg ht, encL_cons, e, List.cons_append, List.dropWhile_cons_of_neg (by rw [hn]; simp)]
theorem lead_enc {cs : List Nat} : encL cs = encL (leadC cs) ++ encL (cs.dropWhile isT) := by
  rw [← encL_append]; unfold leadC; rw [List.takeWhile_append_dropWhile]
theorem lead_extract {s : ByteArray} {cs : List Nat} (h : charsD s.data.toList = some cs) : s.extract 0 (s.size - (encS (cs.dropWhile isT)).size) = encS (leadC cs) := by
  have hs : s.data.toList = encL cs := ((enc_chars _ _ _ (Nat.le_refl _) h).1).symm
  refine bytes_ext ?_
  rw [extract_list, encS_list, List.drop_zero, Nat.sub_zero, hs]
  have h1 : s.size = (encL (leadC cs)).length + (encL (cs.dropWhile isT)).length := by
    rw [← size_len s, hs, ← List.length_append, ← lead_enc]
  have h2 : (encS (cs.dropWhile isT)).size = (encL (cs.dropWhile isT)).length := by rw [← size_len, encS_list]
  rw [h1, h2, Nat.add_sub_cancel]
  conv => lhs; rw [lead_enc (cs := cs)]
  exact List.take_left' rfl
theorem enc_last {c : Nat} (h : isN c) : ∃ r u, (Utf8.encode (c : Int)).data.toList = r ++ [u] ∧ (u = 10 ↔ c = 10) := by
  have hb := h
  unfold isN at hb
  have key : ∀ n : Nat, n < 256 → n ≠ 10 → UInt8.ofNat n ≠ 10 := fun n h1 h2 e => h2 (by have := congrArg UInt8.toNat e; rw [un8 n h1] at this; exact this)
  by_cases h1 : c < 128
  · refine ⟨[], _, enc1 h h1, fun e => ?_, fun e => by rw [e]; rfl⟩
    apply Classical.byContradiction
    intro hn; exact key c (by omega) hn e
  · by_cases h2 : c < 2048
    · exact ⟨[UInt8.ofNat (192 + c / 64)], _, enc2 h h1 h2, fun e => absurd e (key _ (by omega) (by omega)), fun e => by omega⟩
    · by_cases h3 : c < 65536
      · exact ⟨[UInt8.ofNat (224 + c / 4096), UInt8.ofNat (128 + c / 64 % 64)], _, enc3 h h1 h2 h3, fun e => absurd e (key _ (by omega) (by omega)), fun e => by omega⟩
      · exact ⟨[UInt8.ofNat (240 + c / 262144), UInt8.ofNat (128 + c / 4096 % 64), UInt8.ofNat (128 + c / 64 % 64)], _, enc4 h h1 h2 h3, fun e => absurd e (key _ (by omega) (by omega)), fun e => by omega⟩
theorem suffix_enc {cs : List Nat} (h : ∀ c ∈ cs, isN c) : hasSuffix (encL cs) [10] = decide (cs.getLast? = some 10) := by
  unfold hasSuffix
  by_cases hn : cs = []
  · subst hn; rfl
  · obtain ⟨cs0, c, rfl⟩ := snoc_of hn
    obtain ⟨r, u, e, hu⟩ := enc_last (h c (by simp))
    have e2 : encL (cs0 ++ [c]) = (encL cs0 ++ r) ++ [u] := by rw [encL_append, encL_cons, encL_nil, List.append_nil, e, List.append_assoc]
    rw [e2]
    have hl : (cs0 ++ [c]).getLast? = some c := by simp
    rw [hl, Bool.eq_iff_iff, List.isSuffixOf_iff_suffix]
    simp only [decide_eq_true_eq, Option.some.injEq]
    constructor
    · rintro ⟨t, ht⟩
      exact hu.1 ((List.append_inj' ht rfl).2 |> fun q => by simpa using q.symm)
    · intro q
      exact ⟨encL cs0 ++ r, by rw [hu.2 q]⟩
section
variable {s : ByteArray} {cs : List Nat}
theorem trimL_ok (h : charsD s.data.toList = some cs) (w : World) : Calls Tryz.prog 110 #[.string s, .string ⟨#[32, 9]⟩] w fun e w' => e = .returned (.string (encS (cs.dropWhile isT))) ∧ Below w.heap.size w w' := by
  have q := Any.strings_TrimLeft_laid Tryz.laysTrimL (by kernel_rfl) s ⟨#[32, 9]⟩ w (by decide) (by intro j b hj; have := List.mem_of_getElem? hj; simp at this; rcases this with rfl | rfl <;> decide)
  refine q.mono ?_
  rintro e w' ⟨he, hb⟩
  refine ⟨?_, hb⟩
  have ec := enc_chars _ _ _ (Nat.le_refl _) h
  rw [he]
  congr 2
  refine bytes_ext ?_
  rw [encS_list, ← trim_enc cs ec.2, ec.1]
  show (trimLeftS s.data.toList [32, 9]) = _
  rfl
theorem suffix_ok (h : charsD s.data.toList = some cs) (hs : s.size ≤ 1000000000) (w : World) : Calls Tryz.prog 114 #[.string s, .string ⟨#[10]⟩] w fun e w' => e = .returned (.bool (decide (cs.getLast? = some 10))) ∧ w = w' := by
  have q := Any.strings_HasSuffix Tryz.laysSuffix s ⟨#[10]⟩ w (by omega)
  refine q.mono ?_
  rintro e w' ⟨he, hb⟩
  have ec := enc_chars _ _ _ (Nat.le_refl _) h
  refine ⟨?_, hb.symm⟩
  rw [he, ← suffix_enc ec.2, ec.1]
end
end Go.Proofs.YtphdkcdkhklicaaGreatDoor
