import Derived.Test.YtnbccoelbfgmgaaGreatDoorKcF
import Derived.Test.YtnbccoelbfgmgaaGreatDoorZ19
import Derived.Test.YtnbccoelbfgmgaaGreatDoorZ22
import Derived.Test.YtnbccoelbfgmgaaGreatDoorZ23
/- KillBack: Size; the plain law over the state. -/
namespace Go.Proofs.YtnbccoelbfgmgaaGreatDoor
open Go.RowKit Go.Lib
set_option linter.unusedVariables false
set_option linter.unusedSimpArgs false
section
variable {w : World} {N b B : Nat} {F : Nat → Prop} {T : Tx}
theorem psize (h : PB N w b F T B) : Calls Tryz.prog 28 #[pAt b] w fun r w' => r = .returned (.int .i64 T.cs.length) ∧ Below w.heap.size w w' := by
  have HN := Lib.hid (bnoneB h.blk)
  have HS := Lib.hid (h.size w (Below.refl _ w))
  have c9 : w.cell? ⟨b, 9, none⟩ = some (pAt T.S.t) := h.blk.cell (j := 9) rfl
  clear h
  go_enter Tryz.func28, Tryz.ntmps28
  go_wp2_with fail
  refine HN.out.mono ?_
  rintro e w1 ⟨rfl, rfl⟩
  go_wp2_with fail
  refine HS.out.mono ?_
  rintro e w2 ⟨rfl, hb2⟩
  have B2 := Lib.hid hb2
  clear hb2
  go_wp2_with fail
  go_ret
  exact ⟨rfl, B2.out⟩
end
theorem subL_zip (P L S : List Nat) {a b : Nat} (hab : a ≤ b) (hb : b ≤ L.length) : subL (P ++ (L ++ S)) (P.length + 1 + a) (P.length + 1 + b) = (L.drop a).take (b - a) := by
  unfold subL
  rw [show P.length + 1 + a - 1 = P.length + a by omega, show P.length + 1 + b - (P.length + 1 + a) = b - a by omega, List.drop_append, List.drop_of_length_le (by omega), Nat.add_sub_cancel_left, List.nil_append, List.drop_append_of_le_length (by omega), List.take_append_of_le_length (by simp; omega)]
theorem mid_take (left right : Nat) (hlr : left ≤ right) (L : List Nat) : (L.drop (min left L.length)).take (min right L.length - min left L.length) = (L.take right).drop left := by
  rw [drop_min, List.drop_take, List.take_eq_take_iff, List.length_drop]; omega
theorem cut_row {T : Tx} (left right : Nat) (hlr : left ≤ right) (hw : Wide T) {pre L S : List Nat} (he : T.cs = pre ++ (L ++ S)) : cutS T (rowZ left right pre L) = encS (midK left right L) := by
  have hlo := hw.lo; have hhi := hw.hi
  have hlen : T.cs.length = pre.length + (L.length + S.length) := by rw [he]; simp
  have h1 : textV T ((pre.length + 1 + min left L.length : Nat) : Int) ((pre.length + 1 + min right L.length : Nat) : Int) = encS ((L.take right).drop left) := by
    unfold textV
    rw [if_pos (reach_iff.2 ⟨by omega, by omega, by omega⟩), Int.toNat_natCast, Int.toNat_natCast, he, subL_zip _ _ _ (by omega) (by omega), mid_take _ _ hlr]
  unfold cutS rowZ midK
  dsimp only
  rw [h1, Int.toNat_natCast, ← encS_append, encS_ascii 32 _ (by omega)]
  rfl
theorem rows_cut {T : Tx} (left right : Nat) (hlr : left ≤ right) (hw : Wide T) {suf : List Nat} : ∀ (Ls : List (List Nat)) (pre L : List Nat), T.cs = pre ++ (L ++ (tailJ Ls ++ suf)) → (rowsZ left right pre L Ls).map (cutS T) = (L :: Ls).map fun K => encS (midK left right K)
  | [], pre, L, he => by show [cutS T (rowZ left right pre L)] = _; rw [cut_row left right hlr hw he]; rfl
  | M :: Ls, pre, L, he => by
    show cutS T (rowZ left right pre L) :: (rowsZ left right (pre ++ (L ++ [10])) M Ls).map (cutS T) = _
    rw [cut_row left right hlr hw he, rows_cut (suf := suf) left right hlr hw Ls (pre ++ (L ++ [10])) M (by rw [he]; simp [tailJ])]; rfl
theorem rows_T (left right : Nat) : ∀ Ks : List (List Nat), (∀ K ∈ Ks, ∀ c ∈ K, isN c) → RowsT left right (Ks.map fun K => encS (midK left right K)) Ks
  | [], _ => trivial
  | K :: Ks, h => by
    have hm : ∀ c ∈ midK left right K, isN c := fun c hc => (midK_mem hc).elim (fun q => h K (List.mem_cons_self ..) c q) (fun q => by rw [q]; unfold isN; omega)
    exact ⟨chrs_encS hm, rows_T left right Ks (fun K hK => h K (List.mem_cons_of_mem _ hK))⟩
theorem mid_size (left right : Nat) (hlr : left ≤ right) (K : List Nat) (h : ∀ c ∈ K, c < 128) : (encS (midK left right K)).size = right - left := by
  have h1 : (encS (midK left right K)).data.toList.length = (encS (midK left right K)).size := size_len _
  rw [← h1, encS_list, encL_ascii _ (fun c hc => (midK_mem hc).elim (h c) (fun q => by omega)), List.length_map, midK_len _ _ hlr]
theorem rowsZ_len (left right : Nat) : ∀ (Ls : List (List Nat)) (pre L : List Nat), (rowsZ left right pre L Ls).length = Ls.length + 1
  | [], _, _ => rfl
  | M :: Ls, pre, L => by show (rowsZ left right (pre ++ (L ++ [10])) M Ls).length + 1 = _; rw [rowsZ_len left right Ls]; rfl
theorem rowsZ_B (left right n : Nat) (hlr : left ≤ right) (hr : right ≤ 1000) (hn : n ≤ 60000) {suf : List Nat} : ∀ (Ls : List (List Nat)) (pre L : List Nat), (pre ++ (L ++ (tailJ Ls ++ suf))).length ≤ n → ∀ r ∈ rowsZ left right pre L Ls, 0 ≤ r.1 ∧ r.1 ≤ r.2.1 ∧ r.2.1 ≤ 70000 ∧ 0 ≤ r.2.2 ∧ r.2.2 ≤ 1000
  | [], pre, L, h, r, hr' => by
    obtain rfl : r = rowZ left right pre L := by simpa [rowsZ] using hr'
    simp only [List.length_append] at h
    unfold rowZ; dsimp only; omega
  | M :: Ls, pre, L, h, r, hr' => by
    rcases List.mem_cons.1 (show r ∈ rowZ left right pre L :: rowsZ left right (pre ++ (L ++ [10])) M Ls from hr') with rfl | hq
    · simp only [List.length_append] at h
      unfold rowZ; dsimp only; omega
    · exact rowsZ_B left right n hlr hr hn Ls (pre ++ (L ++ [10])) M (by simpa [tailJ] using h) r hq
theorem rowZ_many (left right : Nat) (hlr : left ≤ right) (pre L : List Nat) : (rowZ left right pre L).2.1 - (rowZ left right pre L).1 + (rowZ left right pre L).2.2 = ((right - left : Nat) : Int) := by
  unfold rowZ; dsimp only; omega
theorem rowsZ_many (left right : Nat) (hlr : left ≤ right) : ∀ (Ls : List (List Nat)) (pre L : List Nat), manyR (rowsZ left right pre L Ls) = ((Ls.length + 1 : Nat) : Int) * ((right - left : Nat) : Int)
  | [], pre, L => by
    show manyR [rowZ left right pre L] = _
    unfold manyR
    rw [List.map_cons, List.sum_cons, rowZ_many left right hlr]
    simp
  | M :: Ls, pre, L => by
    have ih := rowsZ_many left right hlr Ls (pre ++ (L ++ [10])) M
    show manyR (rowZ left right pre L :: rowsZ left right (pre ++ (L ++ [10])) M Ls) = _
    unfold manyR at ih ⊢
    rw [List.map_cons, List.sum_cons, ih, rowZ_many left right hlr]
    have e : (((M :: Ls).length + 1 : Nat) : Int) = ((Ls.length + 1 : Nat) : Int) + 1 := by simp
    rw [e, Int.add_mul, Int.one_mul, Int.add_comm]
/-- What the walk of KillBack comes to: behind erasing and pasting. -/
structure BackE (T0 T2 : Tx) (R : List Row3) (ss : List ByteArray) (left a0 : Nat) (K : Nat) : Prop where
  er : (erF T0 R).1 = 0
  at_ : AtIn (erF T0 R).2 a0
  col : colN widN (erF T0 R).2.cs 8 (lineB (erF T0 R).2.cs (erF T0 R).2.S.lo a0) a0 = left
  bad : ss.any badS = false
  pa : (pasteF 8 left (erF T0 R).2 a0 ss).1 = 0
  t2 : (pasteF 8 left (erF T0 R).2 a0 ss).2.1 = T2
  bare : bareB (encS T2.cs) = bareB (encS T0.cs)
  asc : ∀ c ∈ T2.cs, c < 128
  kp : Keep T0.cs T0.G T2 K
  sm : ∀ s ∈ ss, s.size ≤ 1000
theorem tailJ_mem {c : Nat} : ∀ {Ls : List (List Nat)}, c ∈ tailJ Ls → c = 10 ∨ ∃ K ∈ Ls, c ∈ K
  | [], h => by simp [tailJ] at h
  | K :: Ls, h => by
    unfold tailJ at h
    rcases List.mem_cons.1 h with h | h
    · exact .inl h
    · rcases List.mem_append.1 h with h | h
      · exact .inr ⟨K, List.mem_cons_self .., h⟩
      · rcases tailJ_mem h with h | ⟨M, h1, h2⟩
        · exact .inl h
        · exact .inr ⟨M, List.mem_cons_of_mem _ h1, h2⟩
theorem padK_mem {left right : Nat} (hlr : left ≤ right) {K : List Nat} {c : Nat} (h : c ∈ padK left right K) : c ∈ K ∨ c = 32 := by
  obtain ⟨k, _, e⟩ := padK_is left right hlr K
  rw [e] at h
  rcases List.mem_append.1 h with h | h
  · exact .inl h
  · exact .inr (List.mem_replicate.1 h).2
theorem indexByte_not : ∀ (l : List UInt8), (10 : UInt8) ∉ l → indexByte l 10 = -1
  | [], _ => rfl
  | b :: l, h => by
    have hb : (b == 10) = false := by rw [beq_eq_false_iff_ne]; exact fun e => h (by rw [e]; exact List.mem_cons_self)
    rw [indexByte, hb, indexByte_not l (fun e => h (List.mem_cons_of_mem _ e))]; rfl
theorem no_ten {x : ByteArray} (h : (10 : UInt8) ∉ x.data.toList) : nlB x = false := by
  unfold nlB
  have := indexByte_not _ h
  rw [this]; rfl
theorem backE {T0 : Tx} {cs : List Nat} (h0 : OfT T0 cs) (hok : ∀ c ∈ cs, okC c) (hlen : cs.length ≤ 80) {x y cx cy left right : Nat} {p : Nat → Nat} {L : List Nat} {Ls : List (List Nat)} {pre suf : List Nat}
    (h : BackL cs x y cx cy left right p L Ls pre suf) : ∃ T2, BackE T0 T2 (rowsZ left right pre L Ls) ((L :: Ls).map fun K => encS (midK left right K)) left (pre.length + 1 + left) 20000 := by
  have hrl := h.rl
  have hls := h.ls
  have hlr : left ≤ right := by rw [h.lf, h.rt]; omega
  have hcs := h0.cs
  have hN : ∀ c ∈ cs, isN c := fun c hc => by have := hok c hc; unfold okC at this; unfold isN; omega
  have hK0 : Keep T0.cs T0.G T0 0 := ⟨h0.wide, Grp.start h0.o (by rw [hcs]; exact hN), rfl, h0.ch⟩
  have heq : T0.cs = pre ++ (L ++ (tailJ Ls ++ suf)) := hcs.trans h.ln.eq
  obtain ⟨T1, e1, c1, k1⟩ := er_lines (suf := suf) left right hlr hK0 (by rw [hcs]; omega) Ls pre L heq
  have hcl := cutK_len left right L
  have hll := h.lL
  have hz1 : Zip T1.cs pre (cutK left right L) (tailJ (Ls.map (cutK left right)) ++ suf) := ⟨c1, fun c hc => (h.ok L (List.mem_cons_self ..) c (cutK_mem hc)).2.1, h.ln.pr, by
    cases Ls with
    | nil => exact h.ln.sf
    | cons M Ls => exact .inr ⟨_, rfl⟩⟩
  have hl1 := hz1.len
  have hlo := k1.wide.lo; have hhi := k1.wide.hi
  have hl1b : T1.cs.length ≤ cs.length := by
    have := tailJ_len_cut left right hlr Ls
    have h2 := congrArg List.length h.ln.eq
    rw [hl1]
    simp only [List.length_append] at h2 ⊢
    omega
  have hmulA : (2 * right + 24) * (Ls.length + 1) ≤ 184 * 81 := Nat.mul_le_mul (by omega) (by omega)
  have hmulB : Ls.length * right ≤ 80 * 80 := Nat.mul_le_mul (by omega) (by omega)
  obtain ⟨T2, a2, e2, c2, k2⟩ := paste_lines (suf := suf) left right 8 hlr Ls T1 _ pre L ((L :: Ls).map fun K => encS (midK left right K)) k1 c1 h.ln.pr h.ln.sf h.ok hll (rows_T left right _ (fun K hK c hc => (h.ok K hK c hc).2.2)) (by omega)
  have h128 : ∀ c ∈ cs, c < 128 := fun c hc => by have := hok c hc; unfold okC at this; omega
  have hmem : ∀ K ∈ L :: Ls, ∀ c ∈ K, c ∈ cs := fun K hK c hc => by
    rw [h.ln.eq]
    rcases List.mem_cons.1 hK with rfl | hK
    · exact List.mem_append_right _ (List.mem_append_left _ hc)
    · exact List.mem_append_right _ (List.mem_append_right _ (List.mem_append_left _ (mem_tailJ hc hK)))
  have hasc : ∀ c ∈ T2.cs, c < 128 := fun c hc => by
    rw [c2] at hc
    rcases List.mem_append.1 hc with hc | hc
    · exact h128 c (by rw [h.ln.eq]; exact List.mem_append_left _ hc)
    · rcases List.mem_append.1 hc with hc | hc
      · rcases padK_mem hlr hc with hc | hc
        · exact h128 c (hmem L (List.mem_cons_self ..) c hc)
        · omega
      · rcases List.mem_append.1 hc with hc | hc
        · rcases tailJ_mem hc with hc | ⟨K, hK, hc⟩
          · omega
          · obtain ⟨K', hK', rfl⟩ := List.mem_map.1 hK
            rcases padK_mem hlr hc with hc | hc
            · exact h128 c (hmem K' (List.mem_cons_of_mem _ hK') c hc)
            · omega
        · exact h128 c (by rw [h.ln.eq]; exact List.mem_append_right _ (List.mem_append_right _ (List.mem_append_right _ hc)))
  refine ⟨T2, by rw [e1], ?_, ?_, ?_, ?_, ?_, ?_, hasc, ?_, ?_⟩
  · rw [e1]; exact ⟨by dsimp only; omega, by dsimp only; omega, k1.wide.ro⟩
  · rw [e1]; dsimp only
    rw [hlo, hz1.b left (by omega), hz1.col 8 (fun c hc => (h.ok L (List.mem_cons_self ..) c (cutK_mem hc)).1) left (by omega)]
  · rw [List.any_eq_false]
    intro s hs
    obtain ⟨K, hK, rfl⟩ := List.mem_map.1 hs
    have hm : ∀ c ∈ midK left right K, isN c := fun c hc => (midK_mem hc).elim (fun q => (h.ok K hK c q).2.2) (fun q => by rw [q]; unfold isN; omega)
    have h1 : vld (encS (midK left right K)) = true := by rw [vld_chars]; exact (chrs_encS hm).2
    have h2 : nlB (encS (midK left right K)) = false := no_ten (by
      have ha : ∀ c ∈ midK left right K, c < 128 := fun c hc => (midK_mem hc).elim (fun q => h128 c (hmem K hK c q)) (fun q => by omega)
      rw [encS_list, encL_ascii _ ha]
      intro hc
      obtain ⟨c, hc, e⟩ := List.mem_map.1 hc
      have hc10 : c ≠ 10 := (midK_mem hc).elim (fun q => (h.ok K hK c q).2.1) (fun q => by omega)
      have := congrArg UInt8.toNat e
      have hcl := ha c hc
      rw [UInt8.toNat_ofNat'] at this
      have h10 : (10 : UInt8).toNat = 10 := rfl
      omega)
    unfold badS; rw [h1, h2]; simp
  · rw [e1, e2]
  · rw [e1, e2]
  · rw [bareB_enc hasc, hcs, bareB_enc h128, c2, h.ln.eq, bareN_app pre, bareN_app pre, bareN_lines left right hlr h.ln.sf]
  · exact k2.mono (by omega)
  · intro s hs
    obtain ⟨K, hK, rfl⟩ := List.mem_map.1 hs
    rw [mid_size left right hlr K (fun c hc => h128 c (hmem K hK c hc))]; omega
end Go.Proofs.YtnbccoelbfgmgaaGreatDoor
