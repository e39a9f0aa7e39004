import Derived.Test.YtcfdalmllegefaaGreatDoorZ04
import Derived.Test.YtcfdalmllegefaaGreatDoorZ05
import Derived.Test.YtcfdalmllegefaaGreatDoorZ03
import Derived.Test.YtcfdalmllegefaaGreatDoorZ01
import Derived.Test.YtcfdalmllegefaaGreatDoorZ02
import Derived.Laws.Tables
/- slices.BinarySearch and slices.Insert at an empty list; how many characters a string has. -/
namespace Go.Proofs.YtcfdalmllegefaaGreatDoor
open Go.RowKit
set_option linter.unusedVariables false
set_option linter.unusedSimpArgs false
theorem count_chars (s : ByteArray) : ∀ (n pos : Nat) (cs : List Nat), s.size - pos ≤ n → pos ≤ s.size → charsD (s.data.toList.drop pos) = some cs → Lib.runeCountFrom s n pos = cs.length
  | 0, pos, cs, h1, h2, h => by
    have e : pos = s.size := by omega
    have : s.data.toList.drop pos = [] := List.drop_eq_nil_of_le (by rw [e]; simp)
    rw [this, charsD_nil] at h
    cases h; rfl
  | n + 1, pos, cs, h1, h2, h => by
    unfold Lib.runeCountFrom
    by_cases hp : pos < s.size
    · rw [if_pos hp]
      obtain ⟨c, t, rfl, _, hd, hle, hr, _⟩ := decode_step hp h
      rw [count_chars s n _ t (by omega) hle hr]
      simp; omega
    · rw [if_neg hp]
      have : s.data.toList.drop pos = [] := List.drop_eq_nil_of_le (by simp; omega)
      rw [this, charsD_nil] at h
      cases h; rfl
theorem rlenG_chars {s : ByteArray} (h : (charsD s.data.toList).isSome = true) : rlenG s = (chrs s).length := by
  obtain ⟨cs, hc⟩ := Option.isSome_iff_exists.1 h
  unfold rlenG
  rw [vld_chars, h, if_pos rfl]
  unfold chrs Lib.runeCount
  rw [hc]
  exact count_chars s s.size 0 cs (by omega) (by omega) (by simpa using hc)
section
variable {w w' : World}
set_option maxHeartbeats 1000000 in
theorem bsearch_nil (x : Int) : Calls Tryz.prog 253 #[.slice none 0 0, .int .i64 x] w fun e w' => e = .returned (.tuple #[.int .i64 0, .bool false]) ∧ w = w' := by
  go_enter Tryz.func253, Tryz.ntmps253
  go_wp2_with fail
  go_loopw [7, 8] (fun va vb wr => va = .int .i64 0 ∧ vb = .int .i64 0 ∧ w = wr) (fun _ _ _ => 0)
  case atStart => exact ⟨rfl, rfl, rfl⟩
  case round =>
    obtain ⟨rfl, rfl, rfl⟩ := hrel
    go_wp2_with fail
    go_ret2
    exact ⟨rfl, rfl⟩
set_option maxHeartbeats 1000000 in
theorem sinsert_nil {B : Nat} {v : Value} {ys : List Int} (hB : B ≤ w.heap.size) (hv : ROwn encI 3 1 B w v ys) (hl : ys.length ≤ 1000000) : Calls Tryz.prog 254 #[.slice none 0 0, .int .i64 0, v] w fun e w' => ∃ v', e = .returned v' ∧ ROwn encI 3 1 B w' v' ys ∧ Below w.heap.size w w' := by
  obtain ⟨A, cap, rfl, h1, h2, h3⟩ := hv.shape eltI
  clear hv h1 h2
  by_cases h0 : ys.length = 0
  · obtain rfl : ys = [] := List.eq_nil_of_length_eq_zero h0
    clear h3 h0 hl
    simp only [List.length_nil]
    go_enter Tryz.func254, Tryz.ntmps254
    go_wp2_with fail
    go_ret
    exact ⟨_, rfl, ROwn.nil _ _, Below.refl _ w⟩
  · obtain ⟨v', w2, hrun, hown, hgr, hsz⟩ := append_run eltI (ROwn.nil (enc := encI) (E := 3) (k := 1) B w) hB h3 cap (by simp; omega) (by omega)
    rw [List.nil_append] at hown
    have d0 : ((ys.length : Int) == 0) = false := by simpa using h0
    have HR := Lib.hid hrun
    have hbel : Below w.heap.size w w2 := (Below.refl w.heap.size w).grown hgr (Nat.le_refl _) (fun k hk => by simp [Value.ownBlock] at hk)
    have HB := Lib.hid hbel
    have HO := Lib.hid hown
    clear hrun hgr hsz hbel hown h3 h0 hl hB
    generalize ys.length = L at *
    go_enter Tryz.func254, Tryz.ntmps254
    go_wp2_with (at_builtin; refine wpList_app_run rfl _ _ _ rfl rfl rfl HR.out ?_)
    go_ret
    exact ⟨_, rfl, HO.out, HB.out⟩
end
end Go.Proofs.YtcfdalmllegefaaGreatDoor
/- Package buffer: within, made, fits as checks. -/
namespace Go.Proofs.YtcfdalmllegefaaGreatDoor
open Go.RowKit
set_option linter.unusedVariables false
set_option linter.unusedSimpArgs false
section
variable {w w' : World} {P : Prop} {c : Chk} {b : Nat} {S : BS}
theorem al3 (w : World) (x y z : Value) (T U V : TypeId) :
    (((w.alloc (.cells #[x] T)).alloc (.cells #[y] U)).alloc (.cells #[z] V)).cell? ⟨w.heap.size, 0, none⟩ = some x ∧ (((w.alloc (.cells #[x] T)).alloc (.cells #[y] U)).alloc (.cells #[z] V)).cell? ⟨w.heap.size + 1, 0, none⟩ = some y ∧
    (((w.alloc (.cells #[x] T)).alloc (.cells #[y] U)).alloc (.cells #[z] V)).cell? ⟨w.heap.size + 2, 0, none⟩ = some z := by
  have h1 := (al2 w x y T U).1
  have h2 := (al2 (w.alloc (.cells #[x] T)) y z U V)
  have e1 : (w.alloc (.cells #[x] T)).heap.size = w.heap.size + 1 := by simp
  rw [e1] at h2
  refine ⟨?_, h2.1, h2.2⟩
  rw [World.cell?_of_block (w := (w.alloc (.cells #[x] T)).alloc (.cells #[y] U)) (a := ⟨w.heap.size, 0, none⟩) ((MapKept.heap_alloc _ _).2 _ (by simp; omega))]
  exact h1
theorem below3 (w : World) (x y z : Obj) : Below w.heap.size w (((w.alloc x).alloc y).alloc z) := (below2 w x y).alloc (by simp; omega) z
theorem cell_up {w w' : World} {k j : Nat} {v : Value} (h : w.cell? ⟨k, j, none⟩ = some v) (hb : Below w.heap.size w w') : w'.cell? ⟨k, j, none⟩ = some v := (World.cell?_of_block (w := w) (a := ⟨k, j, none⟩) (hb.block _ (lt_of_cell h))).trans h
def reachB (S : BS) (x y : Int) : Bool := decide ((S.lo : Int) ≤ x) && decide (x ≤ y) && decide (y ≤ (S.hi : Int))
set_option maxHeartbeats 1000000 in
theorem within1_ok {k0 k1 k2 : Nat} (h : BufB w b S) (x y : Int) (h0 : w.cell? ⟨k0, 0, none⟩ = some (pAt b)) (h1 : w.cell? ⟨k1, 0, none⟩ = some (.int .i64 x)) (h2 : w.cell? ⟨k2, 0, none⟩ = some (.int .i64 y)) :
    Calls Tryz.prog 191 #[pAt k0, pAt k1, pAt k2] w fun r w2 => r = .returned (.bool (reachB S x y)) ∧ Below w.heap.size w w2 := by
  have HR := Lib.hid (reach_ok h x y)
  clear h
  go_enter Tryz.func191, Tryz.ntmps191
  go_wp2_with fail
  refine HR.out.mono ?_
  rintro r w1 ⟨rfl, rfl⟩
  go_wp2_with fail
  go_ret
  exact ⟨rfl, Below.refl _ _⟩
set_option maxHeartbeats 1000000 in
theorem within_ok (h : BufB w b S) (x y : Int) : Calls Tryz.prog 126 #[pAt b, .int .i64 x, .int .i64 y] w fun r w' =>
    ∃ ke kf, r = .returned (unlC ke kf (if reachB S x y then 0 else 3)).val ∧ Below w.heap.size w w' ∧ ChkAt w' True (unlC ke kf (if reachB S x y then 0 else 3)) := by
  have HB := Lib.hid h
  clear h
  obtain ⟨E, hE⟩ : ∃ E : Int, (if reachB S x y then (0 : Int) else 3) = E := ⟨_, rfl⟩
  rw [hE]
  have HE := Lib.hid hE
  clear hE
  go_enter Tryz.func126, Tryz.ntmps126
  go_wp2_with fail
  have hb3 := below3 w (.cells #[pAt b] 22) (.cells #[.int .i64 x] 3) (.cells #[.int .i64 y] 3)
  obtain ⟨a0, a1, a2⟩ := al3 w (pAt b) (.int .i64 x) (.int .i64 y) 22 3 3
  generalize ((w.alloc (.cells #[pAt b] 22)).alloc (.cells #[.int .i64 x] 3)).alloc (.cells #[.int .i64 y] 3) = W at *
  refine (unless_ok 3 191 #[] #[pAt w.heap.size, pAt (w.heap.size + 1), pAt (w.heap.size + 2)] W).mono ?_
  rintro r w1 ⟨rfl, hb1, he, hf⟩
  go_wp2_with fail
  go_ret
  refine ⟨_, _, rfl, up2 hb3 hb1, HE.out ▸ ChkAt.unless (p := reachB S x y) (enters_mk Tryz.func191 (by kernel_rfl) rfl) he hf fun _ w2 hb2 => ?_⟩
  exact within1_ok (((HB.out.up hb3).up hb1).up hb2) x y (cell_up a0 (up2 hb1 hb2)) (cell_up a1 (up2 hb1 hb2)) (cell_up a2 (up2 hb1 hb2))
set_option maxHeartbeats 1000000 in
theorem bnoneB (h : BufB w b S) : Calls Tryz.prog 71 #[pAt b] w fun e w' => e = .returned (.bool false) ∧ w = w' := by
  have c9 := h.cell (j := 9) rfl
  clear h
  go_enter Tryz.func71, Tryz.ntmps71
  go_wp2_with fail
  go_ret
  exact ⟨rfl, rfl⟩
set_option maxHeartbeats 1000000 in
theorem made_ok (h : BufB w b S) : Calls Tryz.prog 125 #[pAt b] w fun e w' => e = .returned (.int .i64 0) ∧ w = w' := by
  have HN := Lib.hid (bnoneB h)
  clear h
  go_enter Tryz.func125, Tryz.ntmps125
  go_wp2_with fail
  refine HN.out.mono ?_
  rintro e w' ⟨rfl, rfl⟩
  go_wp2_with fail
  go_ret
  exact ⟨rfl, rfl⟩
abbrev madeC (b : Nat) : Chk := ⟨125, #[pAt b], #[], 0⟩
theorem ChkAt.made (h : BufB w b S) : ChkAt w True (madeC b) := ⟨enters_mk Tryz.func125 (by kernel_rfl) rfl, fun _ w1 hb => (made_ok (h.up hb)).mono fun _ _ ⟨h1, h2⟩ => ⟨h1, h2 ▸ Below.refl _ _⟩⟩
/-! ### fits -/
/-- What 'fits' answers: n characters there, less of them to go, the string s. -/
def fitsE (s : ByteArray) (n : Nat) (less : Int) : Int := if vld s = true then (if (65536 : Int) < (n : Int) - less + rlenG s then 4 else 0) else 5
set_option maxHeartbeats 1000000 in
theorem fits1_ok {N k0 k1 k2 n : Nat} (hT : Tabs N w) (h : BufB w b S) (s : ByteArray) (hs : s.size ≤ 1000000) (less : Int) (hl0 : 0 ≤ less) (hl1 : less ≤ n) (hn : n ≤ 1000000)
    (hS : ∀ w1, Below w.heap.size w w1 → Calls Tryz.prog 154 #[pAt S.t] w1 fun r w2 => r = .returned (.int .i64 n) ∧ Below w1.heap.size w1 w2)
    (h0 : w.cell? ⟨k0, 0, none⟩ = some (.string s)) (h1 : w.cell? ⟨k1, 0, none⟩ = some (pAt b)) (h2 : w.cell? ⟨k2, 0, none⟩ = some (.int .i64 less)) :
    Calls Tryz.prog 199 #[pAt k0, pAt k1, pAt k2] w fun r w2 => r = .returned (.int .i64 (fitsE s n less)) ∧ Below w.heap.size w w2 := by
  have hV := valid_any s w (by omega) hT
  have HT := Lib.hid hT
  have HB := Lib.hid h
  have HS := Lib.hid hS
  have HH0 := Lib.hid h0
  have HH1 := Lib.hid h1
  have HH2 := Lib.hid h2
  unfold fitsE
  clear hT h hS h1 h2
  cases hv : vld s with
  | false =>
    rw [hv] at hV
    go_enter Tryz.func199, Tryz.ntmps199
    go_wp2_with fail
    refine hV.mono ?_
    rintro r w1 ⟨rfl, hb1⟩
    go_wp2_with fail
    go_ret
    exact ⟨rfl, hb1⟩
  | true =>
    rw [hv] at hV
    have hlen : rlenG s ≤ s.size := by
      have := rlenG_chars (s := s) (by rw [← vld_chars]; exact hv)
      have := chrs_len s
      omega
    have HVV := Lib.hid hv
    rw [if_pos rfl]
    obtain ⟨R, hR⟩ : ∃ R : Int, R = if (65536 : Int) < (n : Int) - less + rlenG s then 4 else 0 := ⟨_, rfl⟩
    rw [← hR]
    have HR := Lib.hid hR
    clear hv hR
    go_enter Tryz.func199, Tryz.ntmps199
    go_wp2_with fail
    refine hV.mono ?_
    rintro r w1 ⟨rfl, hb1⟩
    clear hV h0
    have HB1 := Lib.hid hb1
    clear hb1
    go_wp2_with fail
    have q0 : ∀ x : UpW w1.heap.size w1, x.w.cell? ⟨k0, 0, none⟩ = some (.string s) := fun x => cell_up HH0.out (up2 HB1.out x.up)
    have q1 : ∀ x : UpW w1.heap.size w1, x.w.cell? ⟨k1, 0, none⟩ = some (pAt b) := fun x => cell_up HH1.out (up2 HB1.out x.up)
    have q2 : ∀ x : UpW w1.heap.size w1, x.w.cell? ⟨k2, 0, none⟩ = some (.int .i64 less) := fun x => cell_up HH2.out (up2 HB1.out x.up)
    have q9 : ∀ x : UpW w1.heap.size w1, x.w.cell? ⟨b, 9, none⟩ = some (pAt S.t) := fun x => ((HB.out.up HB1.out).up x.up).cell (j := 9) rfl
    have s1 : IntKind.i64.wrap ((n : Int) - less) = (n : Int) - less := IntWalk.i64_in _ (by omega)
    have s2 : IntKind.i64.wrap ((n : Int) - less + rlenG s) = (n : Int) - less + rlenG s := IntWalk.i64_in _ (by omega)
    have HSS := Lib.hid fun (x : UpW w1.heap.size w1) => HS.out x.w (up2 HB1.out x.up)
    have HLL := Lib.hid fun (x : UpW w1.heap.size w1) => runesLen s x.w (by omega) ((HT.out.up HB1.out).up x.up)
    refine wp_region_up w1.heap.size (by kernel_rfl) (by kernel_rfl) ?_
    repeat (go_big_quiet_step (first | exact Calls.up ‹_› (Nat.le_refl _) (HSS.out _) | exact Calls.up ‹_› (Nat.le_refl _) (HLL.out _)))
    refine wpQuiet_nil ?_
    rintro ⟨w2, hb2⟩
    dsimp only
    clear q0 q1 q2 q9
    by_cases hlt : (65536 : Int) < (n : Int) - less + rlenG s
    · have d1 : decide ((65536 : Int) < (n : Int) - less + rlenG s) = true := decide_eq_true hlt
      have hr : R = 4 := by rw [HR.out, if_pos hlt]
      subst hr
      go_wp2_with fail
      go_ret
      exact ⟨rfl, up2 HB1.out hb2⟩
    · have d1 : decide ((65536 : Int) < (n : Int) - less + rlenG s) = false := decide_eq_false hlt
      have hr : R = 0 := by rw [HR.out, if_neg hlt]
      subst hr
      go_wp2_with fail
      go_ret
      exact ⟨rfl, up2 HB1.out hb2⟩
/-- The check that 'fits' makes. -/
abbrev fitC (k0 k1 k2 : Nat) (e : Int) : Chk := ⟨199, #[], #[pAt k0, pAt k1, pAt k2], e⟩
set_option maxHeartbeats 1000000 in
theorem fits_ok {N n : Nat} (hT : Tabs N w) (h : BufB w b S) (s : ByteArray) (hs : s.size ≤ 1000000) (less : Int) (hn : n ≤ 1000000)
    (hS : ∀ w1, Below w.heap.size w w1 → Calls Tryz.prog 154 #[pAt S.t] w1 fun r w2 => r = .returned (.int .i64 n) ∧ Below w1.heap.size w1 w2) :
    Calls Tryz.prog 130 #[pAt b, .string s, .int .i64 less] w fun r w' => ∃ k0 k1 k2, r = .returned (fitC k0 k1 k2 (fitsE s n less)).val ∧ Below w.heap.size w w' ∧ ChkAt w' (0 ≤ less ∧ less ≤ n) (fitC k0 k1 k2 (fitsE s n less)) := by
  have HT := Lib.hid hT
  have HB := Lib.hid h
  have HS := Lib.hid hS
  clear hT h hS
  obtain ⟨E, hE⟩ : ∃ E : Int, fitsE s n less = E := ⟨_, rfl⟩
  rw [hE]
  have HE := Lib.hid hE
  clear hE
  go_enter Tryz.func130, Tryz.ntmps130
  go_wp2_with fail
  go_ret
  have hb3 := below3 w (.cells #[pAt b] 22) (.cells #[.string s] 9) (.cells #[.int .i64 less] 3)
  obtain ⟨a0, a1, a2⟩ := al3 w (pAt b) (.string s) (.int .i64 less) 22 9 3
  generalize ((w.alloc (.cells #[pAt b] 22)).alloc (.cells #[.string s] 9)).alloc (.cells #[.int .i64 less] 3) = W at *
  refine ⟨_, _, _, rfl, hb3, enters_mk Tryz.func199 (by kernel_rfl) rfl, fun ⟨p1, p2⟩ w1 hb1 => ?_⟩
  rw [← HE.out]
  exact fits1_ok ((HT.out.up hb3).up hb1) ((HB.out.up hb3).up hb1) s hs less p1 p2 hn (fun w2 hb2 => HS.out w2 (up2 hb3 (up2 hb1 hb2))) (cell_up a1 hb1) (cell_up a0 hb1) (cell_up a2 hb1)
end
end Go.Proofs.YtcfdalmllegefaaGreatDoor
/- Package buffer: locked, gapOpen. -/
namespace Go.Proofs.YtcfdalmllegefaaGreatDoor
open Go.RowKit
set_option linter.unusedVariables false
set_option linter.unusedSimpArgs false
abbrev wordV (x : Int × Int) : Value := .agg #[.int .i64 x.1, .int .i64 x.2]
/-- What props.Get hands back. -/
def getV (o : Option (Int × Int)) : Value := .tuple #[wordV (o.getD (0, 0)), .bool o.isSome]
/-- From w on, the properties at block p read by f. -/
def GetAt (w : World) (p : Nat) (f : Int → Int → Option (Int × Int)) : Prop := ∀ (at_ name : Int) (w1 : World), Below w.heap.size w w1 → Calls Tryz.prog 262 #[pAt p, .int .i64 at_, .int .i64 name] w1 fun r w2 => r = .returned (getV (f at_ name)) ∧ Below w1.heap.size w1 w2
def lockB (o : Option (Int × Int)) : Bool := match o with | none => false | some x => !(x == (1, 0))
section
variable {w w' : World} {b : Nat} {S : BS} {f : Int → Int → Option (Int × Int)}
theorem GetAt.up {p : Nat} (h : GetAt w p f) (hb : Below w.heap.size w w') : GetAt w' p f := fun a n w1 hb1 => h a n w1 (up2 hb hb1)
set_option maxRecDepth 100000 in
set_option maxHeartbeats 2000000 in
theorem locked_ok (h : BufB w b S) (hG : GetAt w S.p f) (at_ : Int) : Calls Tryz.prog 197 #[pAt b, .int .i64 at_] w fun r w2 => r = .returned (.bool (lockB (f at_ S.lock))) ∧ Below w.heap.size w w2 := by
  have C11 : ∀ x : UpW w.heap.size w, x.w.cell? ⟨b, 11, none⟩ = some (pAt S.p) := fun x => (h.up x.up).cell (j := 11) rfl
  have C16 : ∀ x : UpW w.heap.size w, x.w.cell? ⟨b, 16, none⟩ = some (.int .i64 S.lock) := fun x => (h.up x.up).cell (j := 16) rfl
  have HG := Lib.hid fun (w1 : World) (hb : Below w.heap.size w w1) => hG at_ S.lock w1 hb
  clear h hG
  obtain ⟨R, hR⟩ : ∃ R, lockB (f at_ S.lock) = R := ⟨_, rfl⟩
  rw [hR]
  have HR := Lib.hid hR
  clear hR
  have hb0 := below1 w
  go_enter Tryz.func197, Tryz.ntmps197
  go_wp2_with fail
  refine wp_region_mixT w.heap.size 16 (.two [0, 1, 2, 3, 4, 5, 6, 7, 8] 9 (.one [10, 11, 12] 13 (.one [] 14 (.done [15]))) 13 (.one [] 9 (.one [10, 11, 12] 14 (.done [15])))) (by kernel_rfl) (fun c d v a w h => by cases d <;> exact h) (by kernel_rfl) ?_
  simp only [wpMixT, pk_nil, pk_cons, pushAt_zero, pushAt_succ, List.drop_succ_cons, List.drop_zero]
  repeat (go_big_quiet_step (fail))
  refine wpQuiet_nil ?_
  clear C11 C16
  cases ho : f at_ S.lock with
  | none =>
    have HG1 : ∀ w1, Below w.heap.size w w1 → Calls Tryz.prog 262 #[pAt S.p, .int .i64 at_, .int .i64 S.lock] w1 fun r w2 => r = .returned (.tuple #[.agg #[.int .i64 0, .int .i64 0], .bool false]) ∧ Below w1.heap.size w1 w2 := fun w1 hb => by have := HG.out w1 hb; rw [ho] at this; exact this
    have HG := Lib.hid HG1
    clear HG1
    have hRf : R = false := by rw [← HR.out, ho]; rfl
    subst hRf
    refine ⟨?_, ?_⟩
    · go_wp2_with fail
      refine (HG.out _ (Below.refl _ w).drew).mono ?_
      rintro r w1 ⟨rfl, hb1⟩
      have hb1' : Below w.heap.size w w1 := up2 (Below.refl _ w).drew hb1
      go_wp2_with fail
      refine thenQ_normal ⟨⟨⟨_, hb1'⟩, rfl⟩, ?_⟩
      repeat (go_big_quiet_step (fail))
      refine wpQuiet_nil ?_
      go_wp2_with fail
      refine thenQ_normal ⟨⟨⟨_, hb1'.alloc hb1'.size _⟩, rfl⟩, ?_⟩
      refine wpQuiet_nil ?_
      go_wp2_with fail
      refine thenQ_normal ⟨⟨⟨_, hb1'.alloc hb1'.size _⟩, rfl⟩, ?_⟩
      repeat (go_big_quiet_step (fail))
      refine wpQuiet_nil ?_
      go_wp2_with fail
      go_ret
      exact ⟨rfl, hb1'.alloc hb1'.size _⟩
    · go_wp2_with fail
      refine thenQ_normal ⟨⟨⟨_, (Below.refl _ w).drew.alloc (Nat.le_refl _) _⟩, rfl⟩, ?_⟩
      refine wpQuiet_nil ?_
      have hk : Blk (w.drew.alloc (.cells #[.int .i64 0, .int .i64 0] 237)) w.heap.size 237 #[.int .i64 0, .int .i64 0] := Blk.made w.drew 237 #[.int .i64 0, .int .i64 0]
      have hbk : Below w.heap.size w (w.drew.alloc (.cells #[.int .i64 0, .int .i64 0] 237)) := (Below.refl _ w).drew.alloc (Nat.le_refl _) _
      go_wp2_with fail
      refine (HG.out _ hbk).mono ?_
      rintro r w1 ⟨rfl, hb1⟩
      have hb1' : Below w.heap.size w w1 := up2 hbk hb1
      have hk1 := hk.up hb1
      have k0 := hk1.cell (j := 0) rfl
      have k1 := hk1.cell (j := 1) rfl
      have f0 := hk1.fz 0
      have f1 := hk1.fz 1
      go_wp2_with fail
      refine thenQ_normal ⟨⟨⟨_, hb1'⟩, rfl⟩, ?_⟩
      repeat (go_big_quiet_step (fail))
      refine wpQuiet_nil ?_
      go_wp2_with fail
      refine thenQ_normal ⟨⟨⟨_, (hb1'.setCell (p := ⟨w.heap.size, 0, none⟩) (Nat.le_refl _) _).setCell (p := ⟨w.heap.size, 1, none⟩) (Nat.le_refl _) _⟩, rfl⟩, ?_⟩
      repeat (go_big_quiet_step (fail))
      refine wpQuiet_nil ?_
      clear k0 k1 f0 f1
      have hbn := (hb1'.setCell (p := ⟨w.heap.size, 0, none⟩) (Nat.le_refl _) (.int .i64 0)).setCell (p := ⟨w.heap.size, 1, none⟩) (Nat.le_refl _) (.int .i64 0)
      have hk2 := (hk1.set (j := 0) (by simp) (.int .i64 0)).set (j := 1) (by simp) (.int .i64 0)
      have k0 := hk2.cell (j := 0) rfl
      have k1 := hk2.cell (j := 1) rfl
      generalize (w1.setCell ⟨w.heap.size, 0, none⟩ (.int .i64 0)).setCell ⟨w.heap.size, 1, none⟩ (.int .i64 0) = w3 at *
      go_wp2_with fail
      go_ret
      exact ⟨rfl, hbn⟩
  | some x =>
    obtain ⟨xk, xn⟩ := x
    have HG1 : ∀ w1, Below w.heap.size w w1 → Calls Tryz.prog 262 #[pAt S.p, .int .i64 at_, .int .i64 S.lock] w1 fun r w2 => r = .returned (.tuple #[.agg #[.int .i64 xk, .int .i64 xn], .bool true]) ∧ Below w1.heap.size w1 w2 := fun w1 hb => by have := HG.out w1 hb; rw [ho] at this; exact this
    have HG := Lib.hid HG1
    clear HG1
    have hRf : R = !((xk, xn) == ((1, 0) : Int × Int)) := by rw [← HR.out, ho]; rfl
    by_cases hk1 : xk = 1
    · by_cases hn0 : xn = 0
      · subst hk1 hn0
        have hRt : R = false := by rw [hRf]; rfl
        clear hRf
        subst hRt
        refine ⟨?_, ?_⟩
        · go_wp2_with fail
          refine (HG.out _ (Below.refl _ w).drew).mono ?_
          rintro r w1 ⟨rfl, hb1⟩
          have hb1' : Below w.heap.size w w1 := up2 (Below.refl _ w).drew hb1
          go_wp2_with fail
          refine thenQ_normal ⟨⟨⟨_, hb1'⟩, rfl⟩, ?_⟩
          repeat (go_big_quiet_step (fail))
          refine wpQuiet_nil ?_
          go_wp2_with fail
          refine thenQ_normal ⟨⟨⟨_, hb1'.alloc hb1'.size _⟩, rfl⟩, ?_⟩
          refine wpQuiet_nil ?_
          go_wp2_with fail
          refine thenQ_normal ⟨⟨⟨_, hb1'.alloc hb1'.size _⟩, rfl⟩, ?_⟩
          repeat (go_big_quiet_step (fail))
          refine wpQuiet_nil ?_
          go_wp2_with fail
          go_ret
          exact ⟨rfl, hb1'.alloc hb1'.size _⟩
        · go_wp2_with fail
          refine thenQ_normal ⟨⟨⟨_, (Below.refl _ w).drew.alloc (Nat.le_refl _) _⟩, rfl⟩, ?_⟩
          refine wpQuiet_nil ?_
          have hk : Blk (w.drew.alloc (.cells #[.int .i64 0, .int .i64 0] 237)) w.heap.size 237 #[.int .i64 0, .int .i64 0] := Blk.made w.drew 237 #[.int .i64 0, .int .i64 0]
          have hbk : Below w.heap.size w (w.drew.alloc (.cells #[.int .i64 0, .int .i64 0] 237)) := (Below.refl _ w).drew.alloc (Nat.le_refl _) _
          go_wp2_with fail
          refine (HG.out _ hbk).mono ?_
          rintro r w1 ⟨rfl, hb1⟩
          have hb1' : Below w.heap.size w w1 := up2 hbk hb1
          have hk1 := hk.up hb1
          have k0 := hk1.cell (j := 0) rfl
          have k1 := hk1.cell (j := 1) rfl
          have f0 := hk1.fz 0
          have f1 := hk1.fz 1
          go_wp2_with fail
          refine thenQ_normal ⟨⟨⟨_, hb1'⟩, rfl⟩, ?_⟩
          repeat (go_big_quiet_step (fail))
          refine wpQuiet_nil ?_
          go_wp2_with fail
          refine thenQ_normal ⟨⟨⟨_, (hb1'.setCell (p := ⟨w.heap.size, 0, none⟩) (Nat.le_refl _) _).setCell (p := ⟨w.heap.size, 1, none⟩) (Nat.le_refl _) _⟩, rfl⟩, ?_⟩
          repeat (go_big_quiet_step (fail))
          refine wpQuiet_nil ?_
          clear k0 k1 f0 f1
          have hbn := (hb1'.setCell (p := ⟨w.heap.size, 0, none⟩) (Nat.le_refl _) (.int .i64 1)).setCell (p := ⟨w.heap.size, 1, none⟩) (Nat.le_refl _) (.int .i64 0)
          have hk2 := (hk1.set (j := 0) (by simp) (.int .i64 1)).set (j := 1) (by simp) (.int .i64 0)
          have k0 := hk2.cell (j := 0) rfl
          have k1 := hk2.cell (j := 1) rfl
          generalize (w1.setCell ⟨w.heap.size, 0, none⟩ (.int .i64 1)).setCell ⟨w.heap.size, 1, none⟩ (.int .i64 0) = w3 at *
          go_wp2_with fail
          go_ret
          exact ⟨rfl, hbn⟩
      · have hRt : R = true := by rw [hRf, hk1]; simp [hn0]
        subst hk1
        have e0 : (xn == 0) = false := by simp [hn0]
        clear hRf
        subst hRt
        refine ⟨?_, ?_⟩
        · go_wp2_with fail
          refine (HG.out _ (Below.refl _ w).drew).mono ?_
          rintro r w1 ⟨rfl, hb1⟩
          have hb1' : Below w.heap.size w w1 := up2 (Below.refl _ w).drew hb1
          go_wp2_with fail
          refine thenQ_normal ⟨⟨⟨_, hb1'⟩, rfl⟩, ?_⟩
          repeat (go_big_quiet_step (fail))
          refine wpQuiet_nil ?_
          go_wp2_with fail
          refine thenQ_normal ⟨⟨⟨_, hb1'.alloc hb1'.size _⟩, rfl⟩, ?_⟩
          refine wpQuiet_nil ?_
          go_wp2_with fail
          refine thenQ_normal ⟨⟨⟨_, hb1'.alloc hb1'.size _⟩, rfl⟩, ?_⟩
          repeat (go_big_quiet_step (fail))
          refine wpQuiet_nil ?_
          go_wp2_with fail
          go_ret
          exact ⟨rfl, hb1'.alloc hb1'.size _⟩
        · go_wp2_with fail
          refine thenQ_normal ⟨⟨⟨_, (Below.refl _ w).drew.alloc (Nat.le_refl _) _⟩, rfl⟩, ?_⟩
          refine wpQuiet_nil ?_
          have hk : Blk (w.drew.alloc (.cells #[.int .i64 0, .int .i64 0] 237)) w.heap.size 237 #[.int .i64 0, .int .i64 0] := Blk.made w.drew 237 #[.int .i64 0, .int .i64 0]
          have hbk : Below w.heap.size w (w.drew.alloc (.cells #[.int .i64 0, .int .i64 0] 237)) := (Below.refl _ w).drew.alloc (Nat.le_refl _) _
          go_wp2_with fail
          refine (HG.out _ hbk).mono ?_
          rintro r w1 ⟨rfl, hb1⟩
          have hb1' : Below w.heap.size w w1 := up2 hbk hb1
          have hk1 := hk.up hb1
          have k0 := hk1.cell (j := 0) rfl
          have k1 := hk1.cell (j := 1) rfl
          have f0 := hk1.fz 0
          have f1 := hk1.fz 1
          go_wp2_with fail
          refine thenQ_normal ⟨⟨⟨_, hb1'⟩, rfl⟩, ?_⟩
          repeat (go_big_quiet_step (fail))
          refine wpQuiet_nil ?_
          go_wp2_with fail
          refine thenQ_normal ⟨⟨⟨_, (hb1'.setCell (p := ⟨w.heap.size, 0, none⟩) (Nat.le_refl _) _).setCell (p := ⟨w.heap.size, 1, none⟩) (Nat.le_refl _) _⟩, rfl⟩, ?_⟩
          repeat (go_big_quiet_step (fail))
          refine wpQuiet_nil ?_
          clear k0 k1 f0 f1
          have hbn := (hb1'.setCell (p := ⟨w.heap.size, 0, none⟩) (Nat.le_refl _) (.int .i64 1)).setCell (p := ⟨w.heap.size, 1, none⟩) (Nat.le_refl _) (.int .i64 xn)
          have hk2 := (hk1.set (j := 0) (by simp) (.int .i64 1)).set (j := 1) (by simp) (.int .i64 xn)
          have k0 := hk2.cell (j := 0) rfl
          have k1 := hk2.cell (j := 1) rfl
          generalize (w1.setCell ⟨w.heap.size, 0, none⟩ (.int .i64 1)).setCell ⟨w.heap.size, 1, none⟩ (.int .i64 xn) = w3 at *
          go_wp2_with fail
          go_ret
          exact ⟨rfl, hbn⟩
    · have hRt : R = true := by rw [hRf]; simp [hk1]
      have e0 : (xk == 1) = false := by simp [hk1]
      clear hRf
      subst hRt
      refine ⟨?_, ?_⟩
      · go_wp2_with fail
        refine (HG.out _ (Below.refl _ w).drew).mono ?_
        rintro r w1 ⟨rfl, hb1⟩
        have hb1' : Below w.heap.size w w1 := up2 (Below.refl _ w).drew hb1
        go_wp2_with fail
        refine thenQ_normal ⟨⟨⟨_, hb1'⟩, rfl⟩, ?_⟩
        repeat (go_big_quiet_step (fail))
        refine wpQuiet_nil ?_
        go_wp2_with fail
        refine thenQ_normal ⟨⟨⟨_, hb1'.alloc hb1'.size _⟩, rfl⟩, ?_⟩
        refine wpQuiet_nil ?_
        go_wp2_with fail
        refine thenQ_normal ⟨⟨⟨_, hb1'.alloc hb1'.size _⟩, rfl⟩, ?_⟩
        repeat (go_big_quiet_step (fail))
        refine wpQuiet_nil ?_
        go_wp2_with fail
        go_ret
        exact ⟨rfl, hb1'.alloc hb1'.size _⟩
      · go_wp2_with fail
        refine thenQ_normal ⟨⟨⟨_, (Below.refl _ w).drew.alloc (Nat.le_refl _) _⟩, rfl⟩, ?_⟩
        refine wpQuiet_nil ?_
        have hk : Blk (w.drew.alloc (.cells #[.int .i64 0, .int .i64 0] 237)) w.heap.size 237 #[.int .i64 0, .int .i64 0] := Blk.made w.drew 237 #[.int .i64 0, .int .i64 0]
        have hbk : Below w.heap.size w (w.drew.alloc (.cells #[.int .i64 0, .int .i64 0] 237)) := (Below.refl _ w).drew.alloc (Nat.le_refl _) _
        go_wp2_with fail
        refine (HG.out _ hbk).mono ?_
        rintro r w1 ⟨rfl, hb1⟩
        have hb1' : Below w.heap.size w w1 := up2 hbk hb1
        have hk1 := hk.up hb1
        have k0 := hk1.cell (j := 0) rfl
        have k1 := hk1.cell (j := 1) rfl
        have f0 := hk1.fz 0
        have f1 := hk1.fz 1
        go_wp2_with fail
        refine thenQ_normal ⟨⟨⟨_, hb1'⟩, rfl⟩, ?_⟩
        repeat (go_big_quiet_step (fail))
        refine wpQuiet_nil ?_
        go_wp2_with fail
        refine thenQ_normal ⟨⟨⟨_, (hb1'.setCell (p := ⟨w.heap.size, 0, none⟩) (Nat.le_refl _) _).setCell (p := ⟨w.heap.size, 1, none⟩) (Nat.le_refl _) _⟩, rfl⟩, ?_⟩
        repeat (go_big_quiet_step (fail))
        refine wpQuiet_nil ?_
        clear k0 k1 f0 f1
        have hbn := (hb1'.setCell (p := ⟨w.heap.size, 0, none⟩) (Nat.le_refl _) (.int .i64 xk)).setCell (p := ⟨w.heap.size, 1, none⟩) (Nat.le_refl _) (.int .i64 xn)
        have hk2 := (hk1.set (j := 0) (by simp) (.int .i64 xk)).set (j := 1) (by simp) (.int .i64 xn)
        have k0 := hk2.cell (j := 0) rfl
        have k1 := hk2.cell (j := 1) rfl
        generalize (w1.setCell ⟨w.heap.size, 0, none⟩ (.int .i64 xk)).setCell ⟨w.heap.size, 1, none⟩ (.int .i64 xn) = w3 at *
        go_wp2_with fail
        go_ret
        exact ⟨rfl, hbn⟩
end
end Go.Proofs.YtcfdalmllegefaaGreatDoor
/- What an insertion does to no marks, no properties, no overlays. -/
namespace Go.Proofs.YtcfdalmllegefaaGreatDoor
open Go.RowKit
set_option linter.unusedVariables false
set_option linter.unusedSimpArgs false
section
variable {w w' : World} {p m o mm : Nat}
/-! ### properties -/
abbrev prC : Array Value := #[.slice none 0 0, .bool true]
set_option maxHeartbeats 1000000 in
theorem pnone0 (h : Blk w p 203 prC) : Calls Tryz.prog 277 #[pAt p] w fun e w' => e = .returned (.bool false) ∧ w = w' := by
  have c1 := h.cell (j := 1) rfl
  clear h
  go_enter Tryz.func277, Tryz.ntmps277
  go_wp2_with fail
  go_ret
  exact ⟨rfl, rfl⟩
set_option maxHeartbeats 1000000 in
theorem pbsf0 (at_ : Int) (F : FuncId) (w : World) : Calls Tryz.prog 356 #[.slice none 0 0, .int .i64 at_, .func (.func F) #[] #[]] w fun e w' => e = .returned (.tuple #[.int .i64 0, .bool false]) ∧ w = w' := by
  go_enter Tryz.func356, Tryz.ntmps356
  go_wp2_with fail
  go_loopw [9, 10] (fun va vb wr => va = .int .i64 0 ∧ vb = .int .i64 0 ∧ w = wr) (fun _ _ _ => 0)
  case atStart => exact ⟨rfl, rfl, rfl⟩
  case round =>
    obtain ⟨rfl, rfl, rfl⟩ := hrel
    go_wp2_with fail
    go_ret2
    exact ⟨rfl, rfl⟩
set_option maxHeartbeats 1000000 in
theorem pfirst0 (at_ : Int) (w : World) : Calls Tryz.prog 333 #[.slice none 0 0, .int .i64 at_] w fun e w' => e = .returned (.int .i64 0) ∧ w = w' := by
  have HB := Lib.hid (pbsf0 at_ 357 w)
  go_enter Tryz.func333, Tryz.ntmps333
  go_wp2_with fail
  refine HB.out.mono ?_
  rintro e w' ⟨rfl, rfl⟩
  go_wp2_with fail
  go_ret
  exact ⟨rfl, rfl⟩
set_option maxHeartbeats 1000000 in
theorem plist0 (at_ : Int) (h : Blk w p 203 prC) : Calls Tryz.prog 315 #[pAt p, .int .i64 at_] w fun e w' => e = .returned (.slice none 0 0) ∧ w = w' := by
  have HN := Lib.hid (pnone0 h)
  have HF := Lib.hid (pfirst0 at_ w)
  have c0 := h.cell (j := 0) rfl
  clear h
  go_enter Tryz.func315, Tryz.ntmps315
  go_wp2_with fail
  refine HN.out.mono ?_
  rintro e w' ⟨rfl, rfl⟩
  go_wp2_with fail
  refine HF.out.mono ?_
  rintro e w' ⟨rfl, rfl⟩
  go_wp2_with fail
  go_ret
  exact ⟨rfl, rfl⟩
set_option maxHeartbeats 1000000 in
theorem pget0 (name : Int) (w : World) : Calls Tryz.prog 314 #[.slice none 0 0, .int .i64 name] w fun e w' => e = .returned (.tuple #[.agg #[.int .i64 0, .int .i64 0], .bool false]) ∧ Below w.heap.size w w' := by
  have hb := below1 w (.cells #[.int .i64 0, .int .i64 0] 237)
  have HB := Lib.hid hb
  clear hb
  have hk := Blk.made w 237 #[.int .i64 0, .int .i64 0]
  have k0 := hk.cell (j := 0) rfl
  have k1 := hk.cell (j := 1) rfl
  have f0 := hk.fz 0
  have f1 := hk.fz 1
  clear hk
  go_enter Tryz.func314, Tryz.ntmps314
  go_wp2_with fail
  go_loopw [10] (fun va wr => va = .int .i64 0 ∧ wr = w.alloc (.cells #[.int .i64 0, .int .i64 0] 237)) (fun _ _ => 0)
  case atStart => exact ⟨rfl, rfl⟩
  case round =>
    obtain ⟨rfl, rfl⟩ := hrel
    go_wp2_with fail
    refine bodyPost_ret (v := .tuple #[.agg #[.int .i64 0, .int .i64 0], .bool false]) (by simp [results, Tryz.f314, go_sem, k0, k1]) rfl ?_
    exact ⟨rfl, HB.out⟩
set_option maxHeartbeats 1000000 in
theorem pGet0 (at_ name : Int) (h : Blk w p 203 prC) : Calls Tryz.prog 262 #[pAt p, .int .i64 at_, .int .i64 name] w fun e w' => e = .returned (.tuple #[.agg #[.int .i64 0, .int .i64 0], .bool false]) ∧ Below w.heap.size w w' := by
  have hb := below1 w (.cells #[.int .i64 0, .int .i64 0] 237)
  have H := Lib.hid (h.up hb)
  have hk := Blk.made w 237 #[.int .i64 0, .int .i64 0]
  have HB := Lib.hid hb
  have HK := Lib.hid hk
  clear hb h hk
  go_enter Tryz.func262, Tryz.ntmps262
  go_wp2_with fail
  generalize w.alloc (.cells #[.int .i64 0, .int .i64 0] 237) = W at *
  refine (plist0 at_ H.out).mono ?_
  rintro e w' ⟨rfl, rfl⟩
  go_wp2_with fail
  refine (pget0 name W).mono ?_
  rintro e w1 ⟨rfl, hb1⟩
  have hk1 := HK.out.up hb1
  have k0 := hk1.cell (j := 0) rfl
  have k1 := hk1.cell (j := 1) rfl
  have f0 := hk1.fz 0
  have f1 := hk1.fz 1
  go_wp2_with fail
  have hk2 := (hk1.set (j := 0) (by simp) (.int .i64 0)).set (j := 1) (by simp) (.int .i64 0)
  have k0 := hk2.cell (j := 0) rfl
  have k1 := hk2.cell (j := 1) rfl
  refine bodyPost_ret (v := .tuple #[.agg #[.int .i64 0, .int .i64 0], .bool false]) (by simp [results, Tryz.f262, go_sem, k0, k1]) rfl ?_
  exact ⟨rfl, ((HB.out.trans (hb1.mono HB.out.size)).setCell (p := ⟨w.heap.size, 0, none⟩) (Nat.le_refl _) _).setCell (p := ⟨w.heap.size, 1, none⟩) (Nat.le_refl _) _⟩
theorem getAt0 (h : Blk w p 203 prC) : GetAt w p (fun _ _ => none) := fun a n w1 hb => pGet0 a n (h.up hb)
set_option maxHeartbeats 1000000 in
theorem pins0 (a n : Int) (h1 : 1 ≤ a) (h2 : a ≤ 65537) (h3 : 0 ≤ n) (h4 : n ≤ 65536) (h : Blk w p 203 prC) : Calls Tryz.prog 212 #[pAt p, .int .i64 a, .int .i64 n] w fun e w' => e = .returned (.int .i64 0) ∧ Only (fun k => k = p) w w' ∧ Blk w' p 203 prC := by
  have d1 : decide (a < 1) = false := decide_eq_false (by omega)
  have d2 : decide ((65537 : Int) < a) = false := decide_eq_false (by omega)
  have d3 : decide (n < 0) = false := decide_eq_false (by omega)
  have d4 : decide ((65536 : Int) < n) = false := decide_eq_false (by omega)
  have HN := Lib.hid (pnone0 h)
  have c0 := h.cell (j := 0) rfl
  have f0 := h.fz 0
  have H := Lib.hid h
  clear h h1 h2 h3 h4
  go_enter Tryz.func212, Tryz.ntmps212
  go_wp2_with fail
  refine HN.out.mono ?_
  rintro e w' ⟨rfl, rfl⟩
  go_wp2_with fail
  go_loopw [8, 68] (fun va vb wr => va = .slice none 0 0 ∧ vb = .int .i64 0 ∧ w = wr) (fun _ _ _ => 0)
  case atStart => exact ⟨rfl, rfl, rfl⟩
  case round =>
    obtain ⟨rfl, rfl, rfl⟩ := hrel
    go_wp2_with fail
    go_ret
    refine ⟨rfl, Only.setCell (S := fun k => k = p) (p := ⟨p, 0, none⟩) (Only.refl _ w) rfl _, ?_⟩
    exact H.out.set (j := 0) (by simp) (.slice none 0 0)
/-! ### overlays -/
abbrev ovC (x y : Int) : Array Value := #[.int .i64 x, .int .i64 y, .slice none 0 0, .int .i64 0, .bool true]
set_option maxHeartbeats 1000000 in
theorem ovalid0 (x y : Int) (h : Blk w o 206 (ovC x y)) : Calls Tryz.prog 280 #[pAt o] w fun e w' => e = .returned (.bool true) ∧ w = w' := by
  have c1 := h.cell (j := 4) rfl
  clear h
  go_enter Tryz.func280, Tryz.ntmps280
  go_wp2_with fail
  go_ret
  exact ⟨rfl, rfl⟩
set_option maxHeartbeats 1000000 in
theorem oplace_ok (a : Int) (h1 : 1 ≤ a) (h2 : a ≤ 1099511627776) (w : World) : Calls Tryz.prog 289 #[.int .i64 a] w fun e w' => e = .returned (.bool true) ∧ w = w' := by
  have d1 : decide ((1 : Int) ≤ a) = true := decide_eq_true h1
  have d2 : decide (a ≤ (1099511627776 : Int)) = true := decide_eq_true h2
  clear h1 h2
  go_enter Tryz.func289, Tryz.ntmps289
  go_wp2_with fail
  go_ret
  exact ⟨rfl, rfl⟩
set_option maxHeartbeats 1000000 in
theorem oapply0 (x y : Int) (v : Value) (h : Blk w o 206 (ovC x y)) : Calls Tryz.prog 282 #[pAt o, v] w fun e w' => e = .returned (.tuple #[]) ∧ w = w' := by
  have c2 := h.cell (j := 2) rfl
  clear h
  go_enter Tryz.func282, Tryz.ntmps282
  go_wp2_with fail
  go_loopw [11] (fun va wr => va = .int .i64 0 ∧ w = wr) (fun _ _ => 0)
  case atStart => exact ⟨rfl, rfl⟩
  case round =>
    obtain ⟨rfl, rfl⟩ := hrel
    go_wp2_with fail
    go_end0
    exact ⟨rfl, rfl⟩
set_option maxHeartbeats 1000000 in
theorem oins0 (x y : Int) (a n : Int) (h1 : 1 ≤ a) (h2 : a ≤ 65537) (h3 : 0 ≤ n) (h4 : n ≤ 65536) (h : Blk w o 206 (ovC x y)) : Calls Tryz.prog 213 #[pAt o, .int .i64 a, .int .i64 n] w fun e w' => e = .returned (.int .i64 0) ∧ Below w.heap.size w w' := by
  have d3 : decide (n < 0) = false := decide_eq_false (by omega)
  have d4 : decide ((65536 : Int) < n) = false := decide_eq_false (by omega)
  have HP := Lib.hid (oplace_ok a h1 (by omega) w)
  have HN := Lib.hid (ovalid0 x y h)
  have hb := below1 w (.cells #[.int .i64 a, .int .i64 n] 317)
  have H := Lib.hid (h.up hb)
  have hk := Blk.made w 317 #[.int .i64 a, .int .i64 n]
  have k0 := hk.cell (j := 0) rfl
  have k1 := hk.cell (j := 1) rfl
  have c2 := (h.up hb).cell (j := 2) rfl
  have HB := Lib.hid hb
  clear h h1 h2 h3 h4 hb hk
  go_enter Tryz.func213, Tryz.ntmps213
  go_wp2_with fail
  refine HN.out.mono ?_
  rintro e w' ⟨rfl, rfl⟩
  go_wp2_with fail
  refine HP.out.mono ?_
  rintro e w' ⟨rfl, rfl⟩
  go_wp2_with fail
  generalize w.alloc (.cells #[.int .i64 a, .int .i64 n] 317) = W at *
  go_loopw [35] (fun va wr => va = .int .i64 0 ∧ W = wr) (fun _ _ => 0)
  case atStart => exact ⟨rfl, rfl⟩
  case round =>
    obtain ⟨rfl, rfl⟩ := hrel
    go_wp2_with fail
    refine (oapply0 x y _ H.out).mono ?_
    rintro e w' ⟨rfl, rfl⟩
    go_wp2_with fail
    go_ret
    exact ⟨rfl, HB.out⟩
end
end Go.Proofs.YtcfdalmllegefaaGreatDoor
/- What an insertion does to no marks. -/
namespace Go.Proofs.YtcfdalmllegefaaGreatDoor
open Go.RowKit
set_option linter.unusedVariables false
set_option linter.unusedSimpArgs false
section
variable {w w' : World} {m mm : Nat}
abbrev encU (x : Unit) : Value := .int .i64 0
theorem mapT0 : Tryz.prog.underlying 198 = some (.map 3 294) := Tryz.underlying198
theorem neqMap0 (w : World) (r : Option Nat) : (binOp .neq 198 (.map r) (.map none)).run Tryz.prog w = .ok (.bool (!r.isNone)) w := run_neq_map_nil w _ _ _ r mapT0
/-- No marks: the object at block m, its map at block mm. -/
structure Mk0 (w : World) (m mm : Nat) : Prop where
  blk : Blk w m 200 #[.map (some mm), .int .i64 0]
  im : IM w mm encU []
theorem Mk0.up (h : Mk0 w m mm) (hb : Below w.heap.size w w') : Mk0 w' m mm := ⟨h.blk.up hb, by
  obtain ⟨l, c, h2, e⟩ := h.im
  exact ⟨l, c, ⟨(hb.block mm (Array.getElem?_eq_some_iff.1 h2.block).1).trans h2.block, h2.keys, h2.borns, h2.old⟩, e⟩⟩
theorem Mk0.made (h1 : Blk w m 200 #[.map (some mm), .int .i64 0]) (h2 : w.heap[mm]? = some (.map #[] 0)) : Mk0 w m mm := ⟨h1, [], 0, ⟨h2, List.nodup_nil, List.nodup_nil, fun x hx => by cases hx⟩, rfl⟩
set_option maxHeartbeats 1000000 in
theorem mmade0 (h : Mk0 w m mm) : Calls Tryz.prog 266 #[pAt m] w fun e w' => e = .returned (.bool true) ∧ w = w' := by
  have c0 := h.blk.cell (j := 0) rfl
  have hne := neqMap0 w (some mm)
  simp only [Option.isNone_some, Bool.not_false] at hne
  clear h
  go_enter Tryz.func266, Tryz.ntmps266
  go_wp2_with fail
  go_ret
  exact ⟨rfl, rfl⟩
set_option maxHeartbeats 1000000 in
theorem mplace_ok (a : Int) (h1 : 1 ≤ a) (h2 : a ≤ 1099511627776) (w : World) : Calls Tryz.prog 274 #[.int .i64 a] w fun e w' => e = .returned (.bool true) ∧ w = w' := by
  have d1 : decide ((1 : Int) ≤ a) = true := decide_eq_true h1
  have d2 : decide (a ≤ (1099511627776 : Int)) = true := decide_eq_true h2
  clear h1 h2
  go_enter Tryz.func274, Tryz.ntmps274
  go_wp2_with fail
  go_ret
  exact ⟨rfl, rfl⟩
set_option maxHeartbeats 1000000 in
theorem mchange0 (F : FuncId) (cp : Array Value) (h : Mk0 w m mm) : Calls Tryz.prog 275 #[pAt m, .func (.func F) #[] cp] w fun e w' => e = .returned (.tuple #[]) ∧ Below w.heap.size w w' := by
  have c0 := h.blk.cell (j := 0) rfl
  obtain ⟨w1, hrange, hir, hb1, hs1⟩ := h.im.range (P := Tryz.prog) mapT0
  clear h
  go_enter Tryz.func275, Tryz.ntmps275
  go_wp2_with fail
  clear hrange
  go_loopw [4] (fun _ wr => w1 = wr) (fun _ _ => 0)
  case atStart => rfl
  case round =>
    subst hrel
    rcases hir.next (P := Tryz.prog) with ⟨h0, hnx⟩ | ⟨k, v, w2, hk, _⟩
    · go_wp2_with fail
      go_end0
      exact ⟨rfl, hb1⟩
    · cases hk
set_option maxHeartbeats 1000000 in
theorem mins0 (a n : Int) (ah : Bool) (h1 : 1 ≤ a) (h2 : a ≤ 65537) (h3 : 0 ≤ n) (h4 : n ≤ 65536) (h : Mk0 w m mm) : Calls Tryz.prog 211 #[pAt m, .int .i64 a, .int .i64 n, .bool ah] w fun e w' => e = .returned (.int .i64 0) ∧ Below w.heap.size w w' := by
  have d3 : decide (n < 0) = false := decide_eq_false (by omega)
  have d4 : decide ((65536 : Int) < n) = false := decide_eq_false (by omega)
  have hb := below3 w (.cells #[.int .i64 a] 3) (.cells #[.int .i64 n] 3) (.cells #[.bool ah] 4)
  obtain ⟨a0, a1, a2⟩ := al3 w (.int .i64 a) (.int .i64 n) (.bool ah) 3 3 4
  have H := Lib.hid (h.up hb)
  have HB := Lib.hid hb
  have HP := Lib.hid fun W => mplace_ok a h1 (by omega) W
  clear h hb h1 h2 h3 h4
  go_enter Tryz.func211, Tryz.ntmps211
  go_wp2_with fail
  generalize ((w.alloc (.cells #[.int .i64 a] 3)).alloc (.cells #[.int .i64 n] 3)).alloc (.cells #[.bool ah] 4) = W at *
  refine (mmade0 H.out).mono ?_
  rintro e w' ⟨rfl, rfl⟩
  go_wp2_with fail
  refine (HP.out _).mono ?_
  rintro e w' ⟨rfl, rfl⟩
  have c0 := H.out.blk.cell (j := 0) rfl
  obtain ⟨w1, hrange, hir, hb1, hs1⟩ := H.out.im.range (P := Tryz.prog) mapT0
  go_wp2_with fail
  clear hrange
  have H1 := Lib.hid (H.out.up hb1)
  go_loopw [8] (fun _ wr => w1 = wr) (fun _ _ => 0)
  case atStart => rfl
  case round =>
    subst hrel
    rcases hir.next (P := Tryz.prog) with ⟨h0, hnx⟩ | ⟨k, v, w2, hk, _⟩
    · go_wp2_with fail
      refine (mchange0 _ _ H1.out).mono ?_
      rintro e w2 ⟨rfl, hb2⟩
      go_wp2_with fail
      go_ret
      exact ⟨rfl, up2 HB.out (up2 hb1 hb2)⟩
    · cases hk
end
end Go.Proofs.YtcfdalmllegefaaGreatDoor
/- package runes: Is, Width, Word. -/
namespace Go.Proofs.YtcfdalmllegefaaGreatDoor
open Go.RowKit
set_option linter.unusedVariables false
set_option linter.unusedSimpArgs false
theorem wpList_fresh {P : Program} {ops : Array Oper} {rest : List Oper} {o : Oper} {a : Act} {w : World} {Q : Exit → Act → World → Prop} (hgd : o.guard = none) (ty : TypeId) (x y : Operand) (ho : o.op = .store ty x y)
    (cells old : Array Value) (t : TypeId) (n : Nat) (hx : a.eval x = .pointer (some ⟨n, 0, none⟩)) (hn : n = w.heap.size) (hy : a.eval y = .agg cells) (hi : (P.info? ty).map (·.size) = some cells.size)
    (hold : old.size = cells.size) (h1 : cells.all (·.oneCell') = true)
    (h : wpList P ops Q rest (a.put o.dst undef) (w.alloc (.cells cells t))) : wpList P ops Q (o :: rest) a (w.alloc (.cells old t)) := by
  subst hn
  refine wpList_store_row hgd ty x y ho w.heap.size cells hx hy t old (MapKept.heap_alloc _ _).1 hi hold h1 ?_
  have e : (w.alloc (.cells old t)).setRow w.heap.size cells = w.alloc (.cells cells t) := by
    have e : ∀ (xs : Array Obj) (f : Obj → Obj) (x : Obj), (xs.push x).modify xs.size f = xs.push (f x) := fun xs f x => by
      apply Array.ext
      · simp
      · intro i h1 h2
        rw [Array.getElem_modify, Array.getElem_push, Array.getElem_push]
        by_cases h : xs.size = i
        · subst h; simp
        · have : i < xs.size := by simp at h1; omega
          simp [h, this]
    simp only [World.setRow, World.alloc, e]
  rw [e]
  exact h
def zeroL : List (Int × Int) := [(768, 879), (1155, 1161), (1425, 1469), (8203, 8207), (8400, 8447), (65024, 65039), (65056, 65071)]
def twoL : List (Int × Int) := [(0, 8), (10, 31), (127, 127), (4352, 4447), (11904, 12350), (12353, 42191), (44032, 55203), (63744, 64255), (65072, 65135), (65280, 65376), (65504, 65510), (127744, 128591), (129280, 129535), (131072, 262141)]
def wordL : List (Int × Int) := [(48, 57), (65, 90), (97, 122), (170, 170), (181, 181), (186, 186), (192, 214), (216, 246), (248, 591), (768, 893), (895, 902), (904, 1023), (1024, 1327), (1488, 1514), (12353, 12543), (13312, 40959), (44032, 55203), (131072, 262141)]
set_option maxHeartbeats 1000000 in
theorem is_ok (c : Nat) (hc : isN c) (w : World) : Calls Tryz.prog 224 #[.int .i64 c] w fun e w' => e = .returned (.bool true) ∧ w = w' := by
  obtain ⟨h1, h2⟩ := hc
  have d1 : decide ((0 : Int) ≤ (c : Int)) = true := decide_eq_true (by omega)
  have d2 : decide ((c : Int) ≤ (1114111 : Int)) = true := decide_eq_true (by omega)
  by_cases h3 : 55296 ≤ c
  · have d3 : decide ((55296 : Int) ≤ (c : Int)) = true := decide_eq_true (by omega)
    have d4 : decide ((c : Int) ≤ (57343 : Int)) = false := decide_eq_false (by omega)
    clear h1 h2 h3
    go_enter Tryz.func224, Tryz.ntmps224
    go_wp2_with fail
    go_ret
    exact ⟨rfl, rfl⟩
  · have d3 : decide ((55296 : Int) ≤ (c : Int)) = false := decide_eq_false (by omega)
    clear h1 h2 h3
    go_enter Tryz.func224, Tryz.ntmps224
    go_wp2_with fail
    go_ret
    exact ⟨rfl, rfl⟩
theorem RSl.arr {α : Type} {enc : α → List Value} {w : World} {g : Nat} {zs : List α} {T : TypeId} {C : Array Value} (hg : w.heap[g]? = some (.cells C T)) (he : C.toList = zs.flatMap enc) : RSl enc w (some ⟨g, 0, none⟩) zs := fun _ => by
  refine ⟨g, 0, rfl, (Array.getElem?_eq_some_iff.1 hg).1, fun j u hj => ?_⟩
  have e : C[j]? = some u := by rw [← Array.getElem?_toList, he]; exact hj
  simp [World.cell?, hg, e]
def widN (c : Nat) : Nat := if inS c zeroL then 0 else if inS c twoL then 2 else 1
theorem widN_le (c : Nat) : widN c ≤ 2 := by unfold widN; split <;> (try split) <;> omega


/-- The blocks of Width's two lists. -/
def wZ : Array Value := #[.int .i64 768, .int .i64 879, .int .i64 1155, .int .i64 1161, .int .i64 1425, .int .i64 1469, .int .i64 8203, .int .i64 8207, .int .i64 8400, .int .i64 8447, .int .i64 65024, .int .i64 65039, .int .i64 65056, .int .i64 65071]
def wT : Array Value := #[.int .i64 0, .int .i64 8, .int .i64 10, .int .i64 31, .int .i64 127, .int .i64 127, .int .i64 4352, .int .i64 4447, .int .i64 11904, .int .i64 12350, .int .i64 12353, .int .i64 42191, .int .i64 44032, .int .i64 55203, .int .i64 63744, .int .i64 64255, .int .i64 65072, .int .i64 65135, .int .i64 65280, .int .i64 65376, .int .i64 65504, .int .i64 65510, .int .i64 127744, .int .i64 128591, .int .i64 129280, .int .i64 129535, .int .i64 131072, .int .i64 262141]
def wW : Array Value := #[.int .i64 48, .int .i64 57, .int .i64 65, .int .i64 90, .int .i64 97, .int .i64 122, .int .i64 170, .int .i64 170, .int .i64 181, .int .i64 181, .int .i64 186, .int .i64 186, .int .i64 192, .int .i64 214, .int .i64 216, .int .i64 246, .int .i64 248, .int .i64 591, .int .i64 768, .int .i64 893, .int .i64 895, .int .i64 902, .int .i64 904, .int .i64 1023, .int .i64 1024, .int .i64 1327, .int .i64 1488, .int .i64 1514, .int .i64 12353, .int .i64 12543, .int .i64 13312, .int .i64 40959, .int .i64 44032, .int .i64 55203, .int .i64 131072, .int .i64 262141]
set_option maxRecDepth 100000 in
set_option maxHeartbeats 1000000 in
theorem width_ok (c : Nat) (hc : isN c) (w : World) : Calls Tryz.prog 216 #[.int .i64 c] w fun e w' => e = .returned (.int .i64 (widN c)) ∧ Below w.heap.size w w' := by
  have HI := Lib.hid (is_ok c hc)
  clear hc
  obtain ⟨R, hR⟩ : ∃ R, R = widN c := ⟨_, rfl⟩
  rw [← hR]
  unfold widN at hR
  have HR := Lib.hid hR
  clear hR
  go_enter Tryz.func216, Tryz.ntmps216
  go_wp2_with (first | refine wpList_fresh rfl 319 _ _ rfl wZ _ _ _ rfl (by simp) rfl (by as_aux_lemma => kernel_rfl) (by as_aux_lemma => kernel_rfl) (by as_aux_lemma => kernel_rfl) ?_ | refine wpList_fresh rfl 320 _ _ rfl wT _ _ _ rfl (by simp) rfl (by as_aux_lemma => kernel_rfl) (by as_aux_lemma => kernel_rfl) (by as_aux_lemma => kernel_rfl) ?_)
  have HB0 := Lib.hid ((below1 w (.cells wZ 319)).alloc (by simp) (.cells wT 320))
  have g0 : ((w.alloc (.cells wZ 319)).alloc (.cells wT 320)).heap[w.heap.size]? = some (.cells wZ 319) := ((MapKept.heap_alloc _ _).2 _ (by simp)).trans (MapKept.heap_alloc w _).1
  have g1 : ((w.alloc (.cells wZ 319)).alloc (.cells wT 320)).heap[w.heap.size + 1]? = some (.cells wT 320) := by
    have := (MapKept.heap_alloc (w.alloc (.cells wZ 319)) (.cells wT 320)).1
    simpa using this
  have r0 := RSl.arr (enc := encSp) (zs := zeroL) g0 (by kernel_rfl)
  have r1 := RSl.arr (enc := encSp) (zs := twoL) g1 (by kernel_rfl)
  generalize (w.alloc (.cells wZ 319)).alloc (.cells wT 320) = W at *
  have i0 := Lib.hid (in_any (c := (c : Int)) r0 7 (by decide) (by decide))
  refine (HI.out W).mono ?_
  rintro e w1 ⟨rfl, rfl⟩
  have hR := HR.out
  clear HR
  have R1 := Lib.hid r1
  clear r1 r0 g0 g1
  cases h0 : inS (c : Int) zeroL with
  | true =>
    rw [h0] at i0 hR
    simp only [if_true] at hR
    subst hR
    clear h0
    go_wp2_with fail
    refine i0.out.mono ?_
    rintro e w1 ⟨rfl, hb⟩
    have HB1 := Lib.hid (up2 HB0.out hb)
    clear hb HB0 R1
    go_wp2_with fail
    go_ret
    exact ⟨rfl, HB1.out⟩
  | false =>
    rw [h0] at i0 hR
    clear h0
    go_wp2_with fail
    refine i0.out.mono ?_
    rintro e w1 ⟨rfl, hb⟩
    have HB1 := Lib.hid (up2 HB0.out hb)
    have i1 := Lib.hid (in_any (c := (c : Int)) (R1.out.up hb) 14 (by decide) (by decide))
    clear hb HB0 R1
    cases h0 : inS (c : Int) twoL with
    | true =>
      rw [h0] at i1 hR
      simp at hR
      subst hR
      clear h0
      go_wp2_with fail
      refine i1.out.mono ?_
      rintro e w2 ⟨rfl, hb⟩
      have HB2 := Lib.hid (up2 HB1.out hb)
      clear hb
      go_wp2_with fail
      go_ret
      exact ⟨rfl, HB2.out⟩
    | false =>
      rw [h0] at i1 hR
      simp at hR
      subst hR
      clear h0
      go_wp2_with fail
      refine i1.out.mono ?_
      rintro e w2 ⟨rfl, hb⟩
      have HB2 := Lib.hid (up2 HB1.out hb)
      clear hb
      go_wp2_with fail
      go_ret
      exact ⟨rfl, HB2.out⟩
end Go.Proofs.YtcfdalmllegefaaGreatDoor
/- package runes: Word. -/
namespace Go.Proofs.YtcfdalmllegefaaGreatDoor
open Go.RowKit
set_option linter.unusedVariables false
set_option linter.unusedSimpArgs false
set_option maxRecDepth 100000 in
set_option maxHeartbeats 1000000 in
theorem word_ok (c : Int) (w : World) : Calls Tryz.prog 153 #[.int .i64 c] w fun e w' => e = .returned (.bool (inS c wordL)) ∧ Below w.heap.size w w' := by
  obtain ⟨R, hR⟩ : ∃ R, R = inS c wordL := ⟨_, rfl⟩
  rw [← hR]
  have HR := Lib.hid hR
  clear hR
  go_enter Tryz.func153, Tryz.ntmps153
  go_wp2_with (refine wpList_fresh rfl 257 _ _ rfl wW _ _ _ rfl (by simp) rfl (by as_aux_lemma => kernel_rfl) (by as_aux_lemma => kernel_rfl) (by as_aux_lemma => kernel_rfl) ?_)
  have HB0 := Lib.hid (below1 w (.cells wW 257))
  have g0 : (w.alloc (.cells wW 257)).heap[w.heap.size]? = some (.cells wW 257) := (MapKept.heap_alloc w _).1
  have r0 := RSl.arr (enc := encSp) (zs := wordL) g0 (by kernel_rfl)
  generalize w.alloc (.cells wW 257) = W at *
  have i0 := in_any (c := c) r0 18 (by decide) (by decide)
  rw [← HR.out] at i0
  refine i0.mono ?_
  rintro e w1 ⟨rfl, hb⟩
  have HB1 := Lib.hid (up2 HB0.out hb)
  clear hb HB0 r0 g0 i0 HR
  go_wp2_with fail
  go_ret
  exact ⟨rfl, HB1.out⟩
end Go.Proofs.YtcfdalmllegefaaGreatDoor
