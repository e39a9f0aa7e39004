import Derived.Test.YtnbccoelbfgmgaaGreatDoorZ20
/- kill.Erase: the walk. -/
namespace Go.Proofs.YtnbccoelbfgmgaaGreatDoor
open Go.RowKit Go.Lib
set_option linter.unusedVariables false
set_option linter.unusedSimpArgs false
/-- Two states that answer edits alike. -/
structure Like (T T' : Tx) : Prop where
  cs : T'.cs = T.cs
  lo : T'.S.lo = T.S.lo
  hi : T'.S.hi = T.S.hi
  ro : T'.S.ro = T.S.ro
theorem Like.refl (T : Tx) : Like T T := ⟨rfl, rfl, rfl, rfl⟩
theorem Like.reach {T T' : Tx} (h : Like T T') (x y : Int) : reachB T'.S x y = reachB T.S x y := by unfold reachB; rw [h.lo, h.hi]
theorem Like.del {T T' : Tx} (h : Like T T') (x y : Int) : delE T' x y = delE T x y := by unfold delE; rw [h.reach]
theorem Like.putE {T T' : Tx} (h : Like T T') (a : Int) (s : ByteArray) : putEr T' a s = putEr T a s := by unfold putEr; rw [h.reach, h.cs]
theorem Like.take {T T' : Tx} (h : Like T T') (x y : Nat) : Like (takeT T x y) (takeT T' x y) := by
  refine ⟨by rw [takeT_cs, takeT_cs, h.cs], ?_, ?_, by rw [takeT_ro, takeT_ro, h.ro]⟩
  · unfold takeT; split
    · exact h.lo
    · show delN x y T'.S.lo = delN x y T.S.lo; rw [h.lo]
  · unfold takeT; split
    · exact h.hi
    · show delN x y T'.S.hi = delN x y T.S.hi; rw [h.hi]
theorem Like.put {T T' : Tx} (h : Like T T') (a : Nat) (s : List Nat) (bf : Bool) : Like (putT T a s bf) (putT T' a s bf) := by
  refine ⟨by rw [putT_cs, putT_cs, h.cs], ?_, ?_, ?_⟩
  · unfold putT; split
    · exact h.lo
    · show insN a s.length T'.S.lo false = insN a s.length T.S.lo false; rw [h.lo]
  · unfold putT; split
    · exact h.hi
    · show insN a s.length T'.S.hi true = insN a s.length T.S.hi true; rw [h.hi]
  · unfold putT; split
    · exact h.ro
    · exact h.ro
theorem Like.er {T T' : Tx} (h : Like T T') : ∀ L : List Row3, (erF T' L).1 = (erF T L).1 ∧ Like (erF T L).2 (erF T' L).2
  | [] => ⟨rfl, h⟩
  | r :: L => by
    obtain ⟨h1, h2⟩ := h.er L
    by_cases h0 : (erF T L).1 = 0
    · rw [erF_cons T r L h0, erF_cons T' r L (h1.trans h0)]
      dsimp only
      rw [h2.del]
      refine ⟨rfl, ?_⟩
      split
      · exact h2.take _ _
      · exact h2
    · rw [erF_bad T r L h0, erF_bad T' r L (by rw [h1]; exact h0)]
      exact ⟨h1, h2⟩
section
variable {w : World} {N b B : Nat} {F : Nat → Prop} {T : Tx} {R : List Row3}
/-- What Erase answers. -/
def EraseP (N : Nat) (w : World) (b : Nat) (F : Nat → Prop) (T : Tx) (R : List Row3) (B : Nat) (e : Ending) (w' : World) : Prop :=
  e = .returned (.int .i64 (erF T R).1) ∧ Only F w w' ∧ PB N w' b (grow F w.heap.size) (if (erF T R).1 = 0 then (erF T R).2 else T) B
set_option maxRecDepth 100000 in
set_option maxHeartbeats 4000000 in
theorem Erase_ok (hT : Tabs N w) (hRu : Rules N w) (h : PB N w b F T B) (hF : edF N F) (hro : T.S.ro = false) (hl : R.length ≤ 1000) (hB : B + R.length * (T.cs.length + 4) ≤ 890000) (hG : ∀ g ∈ T.G, g.length ≤ 1000000) (x y tab : Int)
    (hR : ∀ w', Below w.heap.size w w' → Calls Tryz.prog 42 #[pAt b, .int .i64 x, .int .i64 y, .int .i64 tab] w' (RowsP w' R)) :
    Calls Tryz.prog 12 #[pAt b, .int .i64 x, .int .i64 y, .int .i64 tab] w (EraseP N w b F T R (B + R.length * (T.cs.length + 4))) := by
  have HTT := Lib.hid hT
  have HRR := Lib.hid hRu
  have HPB := Lib.hid h
  have HF := Lib.hid hF
  have HRO := Lib.hid hro
  have HLL := Lib.hid hl
  have HB := Lib.hid hB
  have HG := Lib.hid hG
  have HN := Lib.hid h.nN
  have HR := Lib.hid (hR w (Below.refl _ w))
  clear hT hRu h hF hro hl hB hG hR
  go_enter Tryz.func12, Tryz.ntmps12
  go_wp2_with fail
  refine HR.out.mono ?_
  rintro e w1 ⟨v, rfl, hown, hb1⟩
  obtain ⟨A, cp, rfl, _, _, hrs⟩ := hown.shape eltRow
  have HRS := Lib.hid hrs
  have HOW := Lib.hid hown
  have B1 := Lib.hid hb1
  clear hown hrs hb1
  go_wp2_with fail
  refine (bcopy_ok (HPB.out.up B1.out) (by have := HB.out; omega) HG.out).mono ?_
  rintro e w2 ⟨b', t, m, p, o, l, rfl, hb', hp2, hb2⟩
  have B2 := Lib.hid hb2
  have P2 := Lib.hid hp2
  have hn1 : N ≤ w1.heap.size := by have := HN.out; have := B1.out.size; omega
  have HN1 := Lib.hid hn1
  have hlike : Like T { T with S := { T.S with t := t, m := m, p := p, o := o, l := l } } := ⟨rfl, rfl, rfl, rfl⟩
  have hT2 := HTT.out.up (up2 B1.out hb2)
  have hR2 := HRR.out.up (up2 B1.out hb2)
  have hcall := erase_ok (c := cp) hT2 hR2 hp2 (fun k hk => by omega) HRO.out HLL.out HB.out (HRS.out.up hb2) (fun g o z e hg hq => by
    subst e
    have := HOW.out.lt (g := g) rfl
    omega)
  have HE := Lib.hid (hlike.er R).1
  have HCA := Lib.hid hcall
  clear hlike hT2 hR2 hcall hn1 hb2 hp2
  go_wp2_with fail
  refine HCA.out.mono ?_
  rintro e w3 ⟨rfl, ho3, _⟩
  rw [HE.out]
  have hB3 : Below w1.heap.size w1 w3 := B2.out.trans (ho3.below B2.out.size (fun k hk => hk))
  have B3 := Lib.hid hB3
  have E1 := Lib.hid (show (erF T R).1 = (erF T R).1 from rfl)
  clear ho3 hB3
  by_cases h0 : (erF T R).1 = 0
  · have H0 := Lib.hid h0
    obtain ⟨E, hE⟩ : ∃ E, E = (erF T R).1 := ⟨_, rfl⟩
    rw [← hE] at h0 ⊢
    subst h0
    clear hE
    have hT3 := HTT.out.up (up2 B1.out B3.out)
    have hR3 := HRR.out.up (up2 B1.out B3.out)
    have hcall := erase_ok (c := cp) hT3 hR3 (HPB.out.bound.up (up2 B1.out B3.out)) (fun k hk => HF.out k hk.1) HRO.out HLL.out HB.out (HRS.out.up B3.out) (fun g o z e hg hq => by
      subst e
      have := HOW.out.base (g := g) rfl
      omega)
    have HCB := Lib.hid hcall
    clear hT3 hR3 hcall
    go_wp2_with fail
    refine HCB.out.mono ?_
    rintro e w4 ⟨rfl, ho4, hp4⟩
    have O4 := Lib.hid ho4
    have P4 := Lib.hid hp4
    clear ho4 hp4
    go_wp2_with fail
    go_ret
    refine ⟨rfl, (Only.of_below (up2 B1.out B3.out)).trans (O4.out.mono fun k hk => hk.1), ?_⟩
    rw [if_pos H0.out]
    exact P4.out.mono (fun k hk => hk.elim (fun q => .inl q.1) (fun q => .inr (by have := (up2 B1.out B3.out).size; omega))) (Nat.le_refl _)
  · have H0 := Lib.hid h0
    obtain ⟨E, hE⟩ : ∃ E, E = (erF T R).1 := ⟨_, rfl⟩
    rw [← hE] at h0 ⊢
    have e1 : (E == 0) = false := by simpa using h0
    have e2 : (E = 0) = False := eq_false h0
    have HEE := Lib.hid hE
    clear hE h0
    go_wp2_with fail
    go_ret
    refine ⟨by rw [← HEE.out]; rfl, Only.of_below (up2 B1.out B3.out), ?_⟩
    rw [if_neg H0.out]
    exact (HPB.out.up (up2 B1.out B3.out)).mono (fun k hk => .inl hk) (by omega)
end
end Go.Proofs.YtnbccoelbfgmgaaGreatDoor
/- kill.paste: its closure. -/
namespace Go.Proofs.YtnbccoelbfgmgaaGreatDoor
open Go.RowKit Go.Lib
set_option linter.unusedVariables false
set_option linter.unusedSimpArgs false
section
variable {w : World} {N b B : Nat} {F : Nat → Prop} {T : Tx}
/-- What the closure of paste answers: it puts a text, and moves the position in its box behind it. -/
structure PutP (N : Nat) (w : World) (b : Nat) (F : Nat → Prop) (T : Tx) (B kb ka a : Nat) (s : ByteArray) (e : Ending) (w' : World) : Prop where
  e : e = .returned (.int .i64 (putEr T a s))
  on : Only (fun k => F k ∨ k = ka) w w'
  pb : PB N w' b (grow F w.heap.size) (putX T a s) (B + 4)
  ka : Blk w' ka 3 #[.int .i64 (if putEr T a s = 0 then a + (chrs s).length else a : Nat)]
  kb : Blk w' kb 26 #[pAt b]
set_option maxRecDepth 100000 in
set_option maxHeartbeats 4000000 in
theorem put1_ok (hT : Tabs N w) (hR : Rules N w) (h : PB N w b F T B) (hF : edF N F) (hB : B ≤ 900000) (hro : T.S.ro = false) {kb ka : Nat} (a : Nat) (ha : a ≤ 1000000) (hkb : Blk w kb 26 #[pAt b]) (hka : Blk w ka 3 #[.int .i64 a]) (h1 : ¬ F kb) (h2 : ¬ F ka) (hne : kb ≠ ka) (s : ByteArray) (hs : s.size ≤ 262144) :
    Calls Tryz.prog 97 #[.string s, pAt kb, pAt ka] w (PutP N w b F T B kb ka a s) := by
  have HT := Lib.hid hT
  have HK := Lib.hid (⟨h1, h2, hne, hs, ha⟩ : _ ∧ _ ∧ _ ∧ _ ∧ _)
  have HKB := Lib.hid hkb
  have HKA := Lib.hid hka
  have HF := Lib.hid hF
  have HN := Lib.hid h.nN
  have HP := Lib.hid (bPut hT hR h hF hB hro a s hs)
  have HL := fun (w' : World) (hT' : Tabs N w') => Lib.hid (runesLen s w' (by omega) hT')
  have c1 : w.cell? ⟨kb, 0, none⟩ = some (pAt b) := hkb.cell (j := 0) rfl
  have c2 : w.cell? ⟨ka, 0, none⟩ = some (.int .i64 a) := hka.cell (j := 0) rfl
  clear hT hR h hF hB hro hkb hka h1 h2 hne hs ha
  go_enter Tryz.func97, Tryz.ntmps97
  go_wp2_with fail
  refine HP.out.mono ?_
  rintro e w1 ⟨rfl, ho1, hp1⟩
  rw [Int.toNat_natCast] at hp1
  have O1 := Lib.hid ho1
  have KA1 := Lib.hid (HKA.out.only ho1 HK.out.2.1)
  have KB1 := Lib.hid (HKB.out.only ho1 HK.out.1)
  have P1 := Lib.hid hp1
  have T1 := Lib.hid (Tabs.only HT.out ho1 (fun k hk => HF.out k hk))
  clear ho1 hp1 c1 c2
  by_cases hE : putEr T a s = 0
  · have HE := Lib.hid hE
    have hv : (charsD s.data.toList).isSome = true := by
      unfold putEr at hE
      split at hE
      · exact (fits0 hE).1
      · omega
    have hlen := rlenG_chars hv
    have hll := chrs_len s
    obtain ⟨E, hEE⟩ : ∃ E, E = putEr T a s := ⟨_, rfl⟩
    rw [← hEE] at hE ⊢
    subst hE
    obtain ⟨m, hm⟩ : ∃ m, m = (chrs s).length := ⟨_, rfl⟩
    rw [← hm] at hlen hll
    have HM := Lib.hid hm
    have s1 : IntKind.i64.wrap ((a : Int) + (m : Int)) = ((a + m : Nat) : Int) := by
      have := HK.out
      rw [IntWalk.i64_in _ (by omega)]; omega
    clear hv hEE hm
    have HLEN := Lib.hid hlen
    clear hlen hll
    go_wp2_with fail
    have C2 : ∀ x : UpW w1.heap.size w1, x.w.cell? ⟨ka, 0, none⟩ = some (.int .i64 a) := fun x => (KA1.out.up x.up).cell (j := 0) rfl
    have CL : ∀ x : UpW w1.heap.size w1, Calls Tryz.prog 38 #[.string s] x.w fun e w'' => e = .returned (.int .i64 (m : Int)) ∧ Below x.w.heap.size x.w w'' := fun x => HLEN.out ▸ (HL x.w (T1.out.up x.up)).out
    have HCL := Lib.hid CL
    clear CL
    refine wp_region_up_tail w1.heap.size 4 (by kernel_rfl) (by kernel_rfl) ?_
    simp only [List.take_succ_cons, List.take_zero, List.drop_succ_cons, List.drop_zero]
    repeat (go_big_quiet_step (exact Calls.up ‹_› (Nat.le_refl _) (HCL.out ‹_›)))
    refine wpQuiet_nil ?_
    rintro ⟨w2, hb2⟩
    dsimp only
    clear C2
    have c2 : w2.cell? ⟨ka, 0, none⟩ = some (.int .i64 a) := (KA1.out.up hb2).cell (j := 0) rfl
    have f2 : w2.frozen? ⟨ka, 0, none⟩ = false := (KA1.out.up hb2).fz 0
    go_wp2_with fail
    go_ret
    have hset : Only (fun k => k = ka) w2 (w2.setCell ⟨ka, 0, none⟩ (.int .i64 ((a + m : Nat) : Int))) := (Only.refl (fun k => k = ka) w2).setCell (p := ⟨ka, 0, none⟩) rfl _
    have hka := HKA.out.lt
    refine ⟨by rw [HE.out]; rfl, ((O1.out.mono (fun k hk => .inl hk)).trans (Only.of_below hb2)).trans (hset.mono (fun k hk => .inr hk)), ?_, ?_, (KB1.out.up hb2).only hset HK.out.2.2.1⟩
    · unfold putX
      refine (P1.out.up hb2).only hset (fun k hk e => ?_)
      subst e
      rcases hk with q | q
      · exact HK.out.2.1 q
      · omega
    · rw [if_pos HE.out, ← HM.out]
      exact (KA1.out.up hb2).set (j := 0) (by simp) _
  · have HE := Lib.hid hE
    obtain ⟨E, hEE⟩ : ∃ E, E = putEr T a s := ⟨_, rfl⟩
    rw [← hEE] at hE ⊢
    have e1 : (E == 0) = false := by simpa using hE
    have e2 : (E = 0) = False := eq_false hE
    have HEE := Lib.hid hEE
    clear hEE hE
    go_wp2_with fail
    go_ret
    refine ⟨by rw [← HEE.out]; rfl, O1.out.mono (fun k hk => .inl hk), ?_, ?_, KB1.out⟩
    · unfold putX; exact P1.out
    · rw [if_neg HE.out]; exact KA1.out
end
end Go.Proofs.YtnbccoelbfgmgaaGreatDoor
/- kill.paste in plain Lean: its states stay within reach; errors stop it. -/
namespace Go.Proofs.YtnbccoelbfgmgaaGreatDoor
open Go.RowKit Go.Lib
set_option linter.unusedVariables false
set_option linter.unusedSimpArgs false
/-- A position within reach, in a buffer that is not read-only. -/
structure AtIn (T : Tx) (a : Nat) : Prop where
  lo : T.S.lo ≤ a
  hi : a ≤ T.S.hi
  ro : T.S.ro = false
theorem putX_in {T : Tx} {a : Nat} {s : ByteArray} (h : AtIn T a) : AtIn (putX T a s) a ∧ (putEr T a s = 0 → AtIn (putX T a s) (a + (chrs s).length)) := by
  have h1 := h.lo; have h2 := h.hi
  unfold putX
  split
  · unfold putT
    split
    · rename_i h0
      rw [h0]; exact ⟨h, fun _ => h⟩
    · have e1 : insN a (chrs s).length T.S.lo false = T.S.lo := by unfold insN; rw [if_neg (by rintro (q | q); omega; exact absurd q.2 (by simp))]
      have e2 : insN a (chrs s).length T.S.hi true = T.S.hi + (chrs s).length := by unfold insN; rw [if_pos (by rcases Nat.lt_or_ge a T.S.hi with q | q; exact .inl q; exact .inr ⟨by omega, rfl⟩)]
      refine ⟨⟨?_, ?_, h.ro⟩, fun _ => ⟨?_, ?_, h.ro⟩⟩
      · show insN a (chrs s).length T.S.lo false ≤ a; omega
      · show a ≤ insN a (chrs s).length T.S.hi true; omega
      · show insN a (chrs s).length T.S.lo false ≤ a + _; omega
      · show a + _ ≤ insN a (chrs s).length T.S.hi true; omega
  · rename_i h0
    exact ⟨h, fun e => absurd e h0⟩
theorem next_in {T : Tx} {a : Nat} (h : AtIn T a) : AtIn T (linesF T.cs T.S.lo T.S.hi 1 a).1 := by
  obtain ⟨g1, g2, g3, g4, g5, g6⟩ := fwdN_is (cs := T.cs) (hi := T.S.hi) 1 a h.hi
  have hl := h.lo
  unfold linesF
  split
  · rename_i h0
    obtain ⟨g7, g8⟩ := g6 h0 (by omega)
    have e : lineB T.cs T.S.lo (fwdN T.cs T.S.hi 1 a).1 = (fwdN T.cs T.S.hi 1 a).1 := lineB_eq _ _ (by omega) (Nat.le_refl _) (fun j h1 h2 => by omega) (.inr ⟨by omega, g8⟩)
    dsimp only
    rw [e]
    exact ⟨by omega, g3, h.ro⟩
  · exact ⟨by omega, g3, h.ro⟩
theorem seek_in {T : Tx} {a : Nat} (h : AtIn T a) (tab col : Nat) : AtIn T (seekN widN T.cs tab (lineB T.cs T.S.lo a) (lineE T.cs T.S.hi a) col) ∧ lineB T.cs T.S.lo a ≤ seekN widN T.cs tab (lineB T.cs T.S.lo a) (lineE T.cs T.S.hi a) col := by
  have h1 := lineB_le (cs := T.cs) (lo := T.S.lo) a h.lo
  have h2 := lineE_ge (cs := T.cs) (hi := T.S.hi) a
  have h3 := lineB_ge (cs := T.cs) (lo := T.S.lo) a
  have h4 := lineE_le (cs := T.cs) (hi := T.S.hi) a h.hi
  obtain ⟨g1, g2, _⟩ := seekN_is (wid := widN) (cs := T.cs) (tab := tab) (lineB T.cs T.S.lo a) (lineE T.cs T.S.hi a) col (by omega)
  exact ⟨⟨by omega, by omega, h.ro⟩, g1⟩
theorem pasteR_app (tab col : Nat) : ∀ (l m : List ByteArray) (x : Int × Tx × Nat), pasteR tab col x (l ++ m) = pasteR tab col (pasteR tab col x l) m
  | [], m, x => rfl
  | s :: l, m, x => by
    by_cases h : x.1 = 0
    · show (if x.1 = 0 then pasteR tab col (paste2 tab col x.2.1 x.2.2 s) (l ++ m) else x) = pasteR tab col (if x.1 = 0 then pasteR tab col (paste2 tab col x.2.1 x.2.2 s) l else x) m
      rw [if_pos h, if_pos h]; exact pasteR_app tab col l m _
    · rw [pasteR_err tab col x _ h, pasteR_err tab col x _ h, pasteR_err tab col x _ h]
theorem pasteF_err (tab col : Nat) (T : Tx) (a : Nat) (ss : List ByteArray) (m : Nat) (h : ¬ (pasteF tab col T a (ss.take m)).1 = 0) : pasteF tab col T a ss = pasteF tab col T a (ss.take m) := by
  cases ss with
  | nil => simp
  | cons s l =>
    cases m with
    | zero => exact absurd rfl h
    | succ m =>
      rw [List.take_succ_cons] at h ⊢
      show pasteR tab col (paste1 tab col T a s) l = pasteR tab col (paste1 tab col T a s) (l.take m)
      have e := pasteR_app tab col (l.take m) (l.drop m) (paste1 tab col T a s)
      rw [List.take_append_drop] at e
      rw [e]
      exact pasteR_err tab col _ _ h
theorem pasteF_one (tab col : Nat) (T : Tx) (a : Nat) (ss : List ByteArray) {s : ByteArray} (h : ss[0]? = some s) : pasteF tab col T a (ss.take 1) = paste1 tab col T a s := by
  cases ss with
  | nil => simp at h
  | cons x l => simp at h; subst h; rfl
theorem pasteF_more (tab col : Nat) (T : Tx) (a : Nat) (ss : List ByteArray) {s : ByteArray} {i : Nat} {T1 : Tx} {a1 : Nat} (hi : 0 < i) (h : ss[i]? = some s) (h0 : pasteF tab col T a (ss.take i) = (0, T1, a1)) : pasteF tab col T a (ss.take (i + 1)) = paste2 tab col T1 a1 s := by
  cases ss with
  | nil => simp at h
  | cons x l =>
    obtain ⟨j, rfl⟩ : ∃ j, i = j + 1 := ⟨i - 1, by omega⟩
    rw [List.take_succ_cons] at h0 ⊢
    have hj : l[j]? = some s := by simpa using h
    rw [List.take_add_one, hj]
    show pasteR tab col (paste1 tab col T a x) (l.take j ++ [s]) = _
    have h1 : pasteR tab col (paste1 tab col T a x) (l.take j) = (0, T1, a1) := h0
    rw [pasteR_snoc tab col _ _ _ (by rw [h1]), h1]
theorem paste2_ok (tab col : Nat) (T : Tx) (a : Nat) (s : ByteArray) {T1 : Tx} {a1 : Nat} (h : pasteN T a = (0, T1, a1)) : paste2 tab col T a s = paste1 tab col T1 a1 s := by
  unfold paste2; rw [h]; rfl
theorem paste2_err (tab col : Nat) (T : Tx) (a : Nat) (s : ByteArray) {E : Int} {T1 : Tx} {a1 : Nat} (h : pasteN T a = (E, T1, a1)) (hE : ¬ E = 0) : paste2 tab col T a s = (E, T1, a1) := by
  unfold paste2; rw [h, if_neg hE]
theorem pasteN_zero (T : Tx) (a : Nat) {nx lf : Nat} (h : linesF T.cs T.S.lo T.S.hi 1 a = (nx, lf)) (h0 : ¬ 0 < lf) : pasteN T a = (0, T, nx) := by
  unfold pasteN; rw [h]; dsimp only; rw [if_neg h0]
theorem pasteN_put (T : Tx) (a : Nat) {nx lf : Nat} (h : linesF T.cs T.S.lo T.S.hi 1 a = (nx, lf)) (h0 : 0 < lf) (he : putEr T nx ⟨#[10]⟩ = 0) : pasteN T a = (0, putX T nx ⟨#[10]⟩, nx + 1) := by
  unfold pasteN; rw [h]; dsimp only; rw [if_pos h0, if_pos he]
theorem pasteN_err (T : Tx) (a : Nat) {nx lf : Nat} (h : linesF T.cs T.S.lo T.S.hi 1 a = (nx, lf)) (h0 : 0 < lf) (he : ¬ putEr T nx ⟨#[10]⟩ = 0) : pasteN T a = (putEr T nx ⟨#[10]⟩, T, nx) := by
  unfold pasteN; rw [h]; dsimp only; rw [if_pos h0, if_neg he]
section
variable {tab col : Nat} {T : Tx} {a q n : Nat} {s : ByteArray}
theorem paste1_full (hq : seekN widN T.cs tab (lineB T.cs T.S.lo a) (lineE T.cs T.S.hi a) col = q) (hn : colN widN T.cs tab (lineB T.cs T.S.lo a) q = n) (h : ¬ n < col) : paste1 tab col T a s = (putEr T q s, putX T q s, q) := by
  unfold paste1; rw [hq]; dsimp only; rw [hn, if_neg h]
theorem paste1_pad (hq : seekN widN T.cs tab (lineB T.cs T.S.lo a) (lineE T.cs T.S.hi a) col = q) (hn : colN widN T.cs tab (lineB T.cs T.S.lo a) q = n) (h : n < col) (he : putEr T q (repB 32 (col - n)) = 0) :
    paste1 tab col T a s = (putEr (putX T q (repB 32 (col - n))) (q + (col - n) : Nat) s, putX (putX T q (repB 32 (col - n))) (q + (col - n)) s, q + (col - n)) := by
  unfold paste1; rw [hq]; dsimp only; rw [hn, if_pos h, if_pos he]
theorem paste1_bad (hq : seekN widN T.cs tab (lineB T.cs T.S.lo a) (lineE T.cs T.S.hi a) col = q) (hn : colN widN T.cs tab (lineB T.cs T.S.lo a) q = n) (h : n < col) (he : ¬ putEr T q (repB 32 (col - n)) = 0) :
    paste1 tab col T a s = (putEr T q (repB 32 (col - n)), T, q) := by
  unfold paste1; rw [hq]; dsimp only; rw [hn, if_pos h, if_neg he]
end
/-! ### alike states -/
theorem Like.putX {T T' : Tx} (h : Like T T') (a : Nat) (s : ByteArray) : Like (putX T a s) (putX T' a s) := by
  unfold Go.Proofs.YtnbccoelbfgmgaaGreatDoor.putX
  rw [h.putE]
  split
  · exact h.put _ _ _
  · exact h
/-- Two answers alike. -/
def LikeA (x x' : Int × Tx × Nat) : Prop := x'.1 = x.1 ∧ Like x.2.1 x'.2.1 ∧ x'.2.2 = x.2.2
theorem Like.paste1 {T T' : Tx} (h : Like T T') (tab col a : Nat) (s : ByteArray) : LikeA (paste1 tab col T a s) (paste1 tab col T' a s) := by
  unfold Go.Proofs.YtnbccoelbfgmgaaGreatDoor.paste1
  rw [h.cs, h.lo, h.hi]
  dsimp only
  rw [h.putE, h.putE]
  split
  · split
    · exact ⟨(h.putX _ _).putE _ _, (h.putX _ _).putX _ _, rfl⟩
    · exact ⟨rfl, h, rfl⟩
  · exact ⟨rfl, h.putX _ _, rfl⟩
theorem Like.pasteN {T T' : Tx} (h : Like T T') (a : Nat) : LikeA (pasteN T a) (pasteN T' a) := by
  unfold Go.Proofs.YtnbccoelbfgmgaaGreatDoor.pasteN
  rw [h.cs, h.lo, h.hi, h.putE]
  split
  · split
    · exact ⟨rfl, h.putX _ _, rfl⟩
    · exact ⟨rfl, h, rfl⟩
  · exact ⟨rfl, h, rfl⟩
theorem Like.paste2 {T T' : Tx} (h : Like T T') (tab col a : Nat) (s : ByteArray) : LikeA (paste2 tab col T a s) (paste2 tab col T' a s) := by
  obtain ⟨h1, h2, h3⟩ := h.pasteN a
  unfold Go.Proofs.YtnbccoelbfgmgaaGreatDoor.paste2
  rw [h1, h3]
  split
  · exact h2.paste1 _ _ _ _
  · exact ⟨h1, h2, h3⟩
theorem LikeA.pasteR (tab col : Nat) : ∀ (l : List ByteArray) {x x' : Int × Tx × Nat}, LikeA x x' → LikeA (pasteR tab col x l) (pasteR tab col x' l)
  | [], x, x', h => h
  | s :: l, x, x', h => by
    obtain ⟨h1, h2, h3⟩ := h
    show LikeA (if x.1 = 0 then Go.Proofs.YtnbccoelbfgmgaaGreatDoor.pasteR tab col (Go.Proofs.YtnbccoelbfgmgaaGreatDoor.paste2 tab col x.2.1 x.2.2 s) l else x) (if x'.1 = 0 then Go.Proofs.YtnbccoelbfgmgaaGreatDoor.pasteR tab col (Go.Proofs.YtnbccoelbfgmgaaGreatDoor.paste2 tab col x'.2.1 x'.2.2 s) l else x')
    rw [h1, h3]
    split
    · exact LikeA.pasteR tab col l (h2.paste2 _ _ _ _)
    · exact ⟨h1, h2, h3⟩
theorem Like.pasteF {T T' : Tx} (h : Like T T') (tab col a : Nat) (ss : List ByteArray) : LikeA (pasteF tab col T a ss) (pasteF tab col T' a ss) := by
  cases ss with
  | nil => exact ⟨rfl, h, rfl⟩
  | cons s l => exact LikeA.pasteR tab col l (h.paste1 tab col a s)
end Go.Proofs.YtnbccoelbfgmgaaGreatDoor
