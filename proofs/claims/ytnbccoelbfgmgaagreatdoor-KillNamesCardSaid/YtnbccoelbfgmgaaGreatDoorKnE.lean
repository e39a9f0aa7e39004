/- KillNames: what rings and registers answer, with the answers as letters. -/
import Derived.Test.YtnbccoelbfgmgaaGreatDoorKnA
import Derived.Test.YtnbccoelbfgmgaaGreatDoorKnD
import Derived.Test.YtnbccoelbfgmgaaGreatDoorKgJ
import Derived.Test.YtnbccoelbfgmgaaGreatDoorZ23
namespace Go.Proofs.YtnbccoelbfgmgaaGreatDoor
open Go.RowKit Go.Lib
set_option linter.unusedVariables false
set_option linter.unusedSimpArgs false
theorem kp1_lit {f : FuncId} {args : Array Value} {w : World} {b most : Nat} {r : KR} (h : Calls Tryz.prog f args w (KPost1 w b most r)) {E : Int} {L : List ByteArray} {k : Nat} (h1 : (r.err : Int) = E) (h2 : r.L = L) (h3 : r.at_ = k) :
    Calls Tryz.prog f args w fun e w' => e = .returned (.int .i64 E) ∧ Ring w' b L most k ∧ Only (· = b) w w' := by
  subst h1; subst h2; subst h3; exact h
theorem kp2_lit {f : FuncId} {args : Array Value} {w : World} {b most : Nat} {r : KR} (h : Calls Tryz.prog f args w (KPost2 w b most r)) {x : ByteArray} {E : Int} {L : List ByteArray} {k : Nat} (h0 : r.x = x) (h1 : (r.err : Int) = E) (h2 : r.L = L) (h3 : r.at_ = k) :
    Calls Tryz.prog f args w fun e w' => e = .returned (.tuple #[.string x, .int .i64 E]) ∧ Ring w' b L most k ∧ Only (· = b) w w' := by
  subst h0; subst h1; subst h2; subst h3; exact h
theorem own_at {w : World} {B : Nat} {v : Value} {L : List ByteArray} (h : ROwn encStr 9 1 B w v L) (hn : 0 < L.length) : ∃ g c, v = .slice (some ⟨g, 0, none⟩) L.length c ∧ B ≤ g ∧ g < w.heap.size := by
  rcases h.2 with ⟨_, h0⟩ | ⟨g, cap, cur, e, hb, hg, _⟩
  · omega
  · exact ⟨g, cap, e, hb, (Array.getElem?_eq_some_iff.1 hg).1⟩
theorem own_n {w : World} {B n : Nat} {v : Value} {L : List ByteArray} (h : ROwn encStr 9 1 B w v L) (hl : L.length = n) (hn : 0 < n) : ∃ g c, v = .slice (some ⟨g, 0, none⟩) n c ∧ B ≤ g ∧ g < w.heap.size := by
  subst hl; exact own_at h hn
theorem own_rsl {w : World} {B g n c : Nat} {L : List ByteArray} (h : ROwn encStr 9 1 B w (.slice (some ⟨g, 0, none⟩) n c) L) : RSl encStr w (some ⟨g, 0, none⟩) L := by
  obtain ⟨A, cp, e, _, _, hr⟩ := h.shape eltStr
  cases e; exact hr
/-- Registers that hold no rows: only their contents matter. -/
def RegsC (W : World) (b bm : Nat) (mc : List (Int × Con)) : Prop := ∃ m, RegsAt W b bm m ∧ conM m = mc
section
variable {w : World} {N b bm : Nat} {mc : List (Int × Con)}
def RgC (w : World) (b bm : Nat) (E : Int) (mc : List (Int × Con)) (e : Ending) (w' : World) : Prop := e = .returned (.int .i64 E) ∧ RegsC w' b bm mc ∧ Only (· = bm) w w'
theorem regsSet (h : RegsC w b bm mc) (c : Int) (k n id : Int) (t : ByteArray) (ht : t.size ≤ 1000) (hT : Tabs N w) (hN : N ≤ w.heap.size) {E : Int} {mc' : List (Int × Con)} (h1 : setE c ⟨k, n, id, t, []⟩ = E) (h2 : setM mc c ⟨k, n, id, t, []⟩ = mc') :
    Calls Tryz.prog 15 #[.pointer (some ⟨b, 0, none⟩), .int .i64 c, .agg #[.int .i64 k, .int .i64 n, .int .i64 id, .string t, .slice none 0 0]] w (RgC w b bm E mc') := by
  obtain ⟨m, h, rfl⟩ := h
  refine (kset_any h c ⟨k, n, id, t, none, 0, []⟩ (RSl.nil _ _) (by simp) (by simp) (by show t.size ≤ _; omega) hT hN).mono ?_
  rintro e w' ⟨m', rfl, hr, hc, ho, _⟩
  subst h1; subst h2
  exact ⟨rfl, ⟨m', hr, hc⟩, ho⟩
theorem regsAdd (h : RegsC w b bm mc) (c d : Int) (hd0 : -9223372036854775808 ≤ d) (hd1 : d ≤ 9223372036854775807) {E : Int} {mc' : List (Int × Con)} (h1 : addR mc c d = E) (h2 : addM mc c d = mc') :
    Calls Tryz.prog 17 #[.pointer (some ⟨b, 0, none⟩), .int .i64 c, .int .i64 d] w (RgC w b bm E mc') := by
  obtain ⟨m, h, rfl⟩ := h
  refine (kadd_any h c d hd0 hd1).mono ?_
  rintro e w' ⟨m', rfl, hr, hc, ho, _⟩
  subst h1; subst h2
  exact ⟨rfl, ⟨m', hr, hc⟩, ho⟩
theorem regsDrop (h : RegsC w b bm mc) (c : Int) {E : Int} {mc' : List (Int × Con)} (h1 : dropE mc c = E) (h2 : delM mc c = mc') :
    Calls Tryz.prog 18 #[.pointer (some ⟨b, 0, none⟩), .int .i64 c] w (RgC w b bm E mc') := by
  obtain ⟨m, h, rfl⟩ := h
  refine (kdrop_any h c).mono ?_
  rintro e w' ⟨m', rfl, hr, hc, ho, _⟩
  subst h1; subst h2
  exact ⟨rfl, ⟨m', hr, hc⟩, ho⟩
theorem regsGet (h : RegsC w b bm mc) (c : Int) {k n id : Int} {t : ByteArray} (hl : lookM mc c = some ⟨k, n, id, t, []⟩) :
    Calls Tryz.prog 16 #[.pointer (some ⟨b, 0, none⟩), .int .i64 c] w fun e w' => ∃ A cp, e = .returned (.tuple #[.agg #[.int .i64 k, .int .i64 n, .int .i64 id, .string t, .slice A 0 cp], .bool true]) ∧ Below w.heap.size w w' := by
  obtain ⟨m, h, rfl⟩ := h
  refine (get_any h c).mono ?_
  rintro e w' ⟨y, is, rfl, _, _, hb, hc, his⟩
  rw [← lookM_con, hl] at hc his
  obtain ⟨yk, yn, yi, yt, yA, yc, yr⟩ := y
  have hc' : (⟨yk, yn, yi, yt, yr⟩ : Con) = ⟨k, n, id, t, []⟩ := hc
  cases hc'
  subst his
  exact ⟨yA, yc, rfl, hb⟩
theorem regsNames (h : RegsC w b bm mc) (hl : mc.length ≤ 1000000) {ks : List Int} (hks : (mc.map (·.1)).Perm ks) (ha : ks.Pairwise (· < ·)) : Calls Tryz.prog 26 #[.pointer (some ⟨b, 0, none⟩)] w (IsPost w ks) := by
  obtain ⟨m, h, rfl⟩ := h
  refine names_any h (by simpa [conM] using hl) ?_ ha
  have : (conM m).map (·.1) = m.map (·.1) := by unfold conM; rw [List.map_map]; rfl
  rw [← this]; exact hks
end
theorem enc_rep (c n : Nat) (hc : c < 128) : vld (repB (UInt8.ofNat c) n) = true ∧ rlenG (repB (UInt8.ofNat c) n) = n := by
  have hN : ∀ x ∈ List.replicate n c, isN x := fun x hx => by rw [(List.mem_replicate.1 hx).2]; unfold isN; omega
  have h := chrs_encS hN
  rw [encS_ascii c n hc] at h
  refine ⟨by rw [vld_chars]; exact h.2, ?_⟩
  rw [rlenG_chars h.2, h.1, List.length_replicate]
theorem bigX : ∃ X, X = repB 120 65536 ∧ vld X = true ∧ rlenG X = 65536 ∧ X.size = 65536 := ⟨_, rfl, (enc_rep 120 65536 (by omega)).1, (enc_rep 120 65536 (by omega)).2, repB_size _ _⟩
theorem killBig {X : ByteArray} (h : vld X = true) : (killK 1 [] 0 X).err = 0 ∧ (killK 1 [] 0 X).L = [X] ∧ (killK 1 [] 0 X).at_ = 0 := by
  unfold killK; rw [if_pos h]; exact ⟨rfl, rfl, rfl⟩
/-- The wide text's string. -/
def strW : ByteArray := repB 10 255 ++ (⟨#[9, 9, 9, 9]⟩ : ByteArray)
theorem strW_is : strW = encS (csW 255) := by
  unfold strW csW
  rw [← encS_append, encS_ascii 10 255 (by omega)]
  rfl
theorem strW_ok : (charsD strW.data.toList).isSome = true ∧ chrs strW = csW 255 ∧ strW.size = 259 := by
  have hN : ∀ x ∈ csW 255, isN x := by unfold csW isN; decide +kernel
  have h := chrs_encS hN
  rw [← strW_is] at h
  refine ⟨h.2, h.1, ?_⟩
  unfold strW
  rw [ByteArray.size_append, repB_size]; rfl
theorem csA_is : (charsD (⟨#[97, 98, 99, 10, 100, 101, 102, 103]⟩ : ByteArray).data.toList).isSome = true ∧ chrs ⟨#[97, 98, 99, 10, 100, 101, 102, 103]⟩ = csA := by decide +kernel
section
variable {w : World} {N b B : Nat} {F : Nat → Prop} {T : Tx}
theorem gotoW (h : PB N w b F T B) (hw : Wide T) (hc : T.cs = csW 255) : Calls Tryz.prog 20 #[pAt b, .int .i64 1] w fun r w' => r = .returned (.int .i64 0) ∧ Only F w w' ∧ PB N w' b (grow F w.heap.size) { T with S := { T.S with pt := 1 } } B := by
  have e : delE T (1 : Int) (1 : Int) = 0 := delE_wide hw (x := 1) (y := 1) (by omega) (by omega) (by omega)
  have := bGoto h 1
  rw [e, if_pos rfl] at this
  exact this
theorem insW_ok (hT : Tabs N w) (hR : Rules N w) (h : PB N w b F { T with S := { T.S with pt := 1 } } 5) (hw : Wide T) (hc : T.cs = csW 255) : Calls Tryz.prog 21 #[pAt b, .string ⟨#[10]⟩] w fun r w' => r = .returned (.int .i64 0) ∧ Only F w w' ∧ ∃ T4, PB N w' b (grow F w.heap.size) T4 9 ∧ Wide T4 ∧ T4.cs = csW 256 := by
  obtain ⟨h1, h2, h3⟩ := insW hc hw
  have := bInsert hT hR h (by omega) hw.ro ⟨#[10]⟩ (by decide)
  refine this.mono ?_
  rintro r w' ⟨rfl, ho, hp⟩
  have h1' : fitsE ⟨#[10]⟩ ({ T with S := { T.S with pt := 1 } } : Tx).cs.length 0 = 0 := h1
  rw [if_pos h1'] at hp
  exact ⟨by rw [h1'], ho, _, hp, h2, h3⟩
theorem allA (h : PB N w b F T B) (hc : T.cs = [97, 88, 10, 100, 89, 103, 10, 32, 90]) : Calls Tryz.prog 24 #[pAt b] w fun r w' => r = .returned (.string ⟨#[97, 88, 10, 100, 89, 103, 10, 32, 90]⟩) ∧ Below w.heap.size w w' := by
  have h := pAll h
  rw [hc, show encS [97, 88, 10, 100, 89, 103, 10, 32, 90] = (⟨#[97, 88, 10, 100, 89, 103, 10, 32, 90]⟩ : ByteArray) from by decide +kernel] at h
  exact h
end
end Go.Proofs.YtnbccoelbfgmgaaGreatDoor
