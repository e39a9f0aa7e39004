/- The reference's marks in memory: place, New, find, At, Advance, All, Add. -/
import Derived.Test.YtlnpjdihdemgmaaMrA
import Derived.Test.YtlnpjdihdemgmaaMix
import Derived.Test.YtlnpjdihdemgmaaMkR
namespace Go.Proofs.Ytlnpjdihdemgmaa
open Go.RowKit
set_option linter.unusedVariables false

/-- The reference's set at block bo: its slice v holds m and lies alone in a block from B on; the next number is n. -/
structure RefAt (B : Nat) (w : World) (bo : Nat) (v : Value) (m : List (Int × Mk)) (n : Int) : Prop where
  c0 : w.cell? ⟨bo, 0, none⟩ = some v
  c1 : w.cell? ⟨bo, 1, none⟩ = some (.int .i64 n)
  f0 : w.frozen? ⟨bo, 0, none⟩ = false
  f1 : w.frozen? ⟨bo, 1, none⟩ = false
  own : ROwn encK 47 3 B w v m
  lo : bo < B
  le : B ≤ w.heap.size
section
variable {B bo : Nat} {v : Value} {m : List (Int × Mk)} {n : Int} {w w' : World}
theorem RefAt.lt (h : RefAt B w bo v m n) : bo < w.heap.size := lt_of_cell h.c0
theorem RefAt.kept (h : RefAt B w bo v m n) (hs : w.heap.size ≤ w'.heap.size) (hb : w'.heap[bo]? = w.heap[bo]?) (hk : ∀ g, v.ownBlock = some g → w'.heap[g]? = w.heap[g]?) : RefAt B w' bo v m n :=
  ⟨(World.cell?_of_block (w := w) (a := ⟨bo, 0, none⟩) hb).trans h.c0, (World.cell?_of_block (w := w) (a := ⟨bo, 1, none⟩) hb).trans h.c1, (World.frozen?_of_block (w := w) (a := ⟨bo, 0, none⟩) hb).trans h.f0, (World.frozen?_of_block (w := w) (a := ⟨bo, 1, none⟩) hb).trans h.f1, h.own.kept hk, h.lo, Nat.le_trans h.le hs⟩
theorem RefAt.up (h : RefAt B w bo v m n) (hb : Below w.heap.size w w') : RefAt B w' bo v m n := h.kept hb.size (hb.block bo h.lt) fun g hg => hb.block g (h.own.lt hg)
/-- The blocks of the reference's set. -/
abbrev OwnR (bo B : Nat) : Nat → Prop := fun k => k = bo ∨ B ≤ k
def RPost1 (B : Nat) (w : World) (bo : Nat) (r : DoR) (e : Ending) (w' : World) : Prop := e = .returned (.int .i64 r.err) ∧ ∃ v, RefAt B w' bo v r.m r.n ∧ Only (OwnR bo B) w w'
def RPost2 (B : Nat) (w : World) (bo : Nat) (r : DoR) (e : Ending) (w' : World) : Prop := e = .returned (.tuple #[.int .i64 r.ret, .int .i64 r.err]) ∧ ∃ v, RefAt B w' bo v r.m r.n ∧ Only (OwnR bo B) w w'

set_option maxHeartbeats 400000 in
theorem rplace_any (a : Int) (w : World) : Calls Try.prog 61 #[.int .i64 a] w fun e w' => e = .returned (.bool (placeI a)) ∧ w = w' := by
  go_enter Try.func61, Try.ntmps61
  go_wp2
  all_goals (go_ret; exact ⟨ret_bool (Bool.eq_iff_iff.2 (by simp [placeI] <;> omega)), rfl⟩)

set_option maxHeartbeats 400000 in
theorem rnew_any (w : World) : Calls Try.prog 25 #[] w fun e w' => e = .returned (.pointer (some ⟨w.heap.size, 0, none⟩)) ∧ RefAt (w.heap.size + 1) w' w.heap.size (.slice none 0 0) [] 0 ∧ Below w.heap.size w w' := by
  go_enter Try.func25, Try.ntmps25
  go_wp2
  go_ret
  have e := (MapKept.heap_alloc w (.cells #[.slice none 0 0, .int .i64 0] 57)).1
  exact ⟨rfl, ⟨by simp only [World.cell?, e]; rfl, by simp only [World.cell?, e]; rfl, by simp only [World.frozen?, e]; rfl, by simp only [World.frozen?, e]; rfl, ROwn.nil _ _, by omega, by simp⟩, below1 w _⟩

set_option maxHeartbeats 1000000 in
theorem rfind_yes (h : RefAt B w bo v m n) {id : Int} {i : Nat} {x : Mk} (hi : m[i]? = some (id, x)) (hf : ∀ (j : Nat) (y : Int × Mk), j < i → m[j]? = some y → y.1 ≠ id) (hl : m.length ≤ 1000000) :
    Calls Try.prog 53 #[.pointer (some ⟨bo, 0, none⟩), .int .i64 id] w fun e w' => e = .returned (.int .i64 i) ∧ w = w' := by
  obtain ⟨A, cp, rfl, hA1, hA2, hAs⟩ := h.own.shape eltK
  have c0 := h.c0
  have hil := (List.getElem?_eq_some_iff.1 hi).1
  have HI := Lib.hid hi
  have HF := Lib.hid hf
  have HAs := Lib.hid hAs
  clear hi hf hAs h hA1 hA2
  go_enter Try.func53, Try.ntmps53
  go_wp2
  go_loop [5] (fun vi => ∃ k : Nat, k ≤ i ∧ vi = .int .i64 k) (fun vi => m.length - (intOf vi).toNat)
  case atStart => exact ⟨0, by omega, rfl⟩
  case round =>
    obtain ⟨k, hk, rfl⟩ := hrel
    have hlt' : (k : Int) < m.length := by omega
    by_cases hlt : k < i
    · obtain ⟨⟨jd, jx⟩, hy⟩ : ∃ y, m[k]? = some y := ⟨_, List.getElem?_eq_getElem (by omega)⟩
      obtain ⟨g, o, rfl, hg, hc⟩ := HAs.out.at_ eltK hy
      have e0 := hc 0 _ rfl
      simp only [Nat.add_zero] at e0
      have hne : (jd == id) = false := by simpa using HF.out k _ hlt hy
      clear hc hy
      go_wp2
      go_round
      case rel => exact ⟨k + 1, by omega, by go_num⟩
      case measure => simp [intOf]; omega
    · have hki : k = i := by omega
      subst hki
      obtain ⟨g, o, rfl, hg, hc⟩ := HAs.out.at_ eltK HI.out
      have e0 := hc 0 _ rfl
      simp only [Nat.add_zero] at e0
      clear hc
      go_wp2
      go_ret
      exact ⟨rfl, rfl⟩

set_option maxHeartbeats 1000000 in
theorem rfind_no (h : RefAt B w bo v m n) {id : Int} (hf : ∀ (j : Nat) (y : Int × Mk), m[j]? = some y → y.1 ≠ id) (hl : m.length ≤ 1000000) :
    Calls Try.prog 53 #[.pointer (some ⟨bo, 0, none⟩), .int .i64 id] w fun e w' => e = .returned (.int .i64 (-1)) ∧ w = w' := by
  obtain ⟨A, cp, rfl, hA1, hA2, hAs⟩ := h.own.shape eltK
  have c0 := h.c0
  have HF := Lib.hid hf
  have HAs := Lib.hid hAs
  clear hf hAs h hA1 hA2
  go_enter Try.func53, Try.ntmps53
  go_wp2
  go_loop [5] (fun vi => ∃ k : Nat, k ≤ m.length ∧ vi = .int .i64 k) (fun vi => m.length - (intOf vi).toNat)
  case atStart => exact ⟨0, by omega, rfl⟩
  case round =>
    obtain ⟨k, hk, rfl⟩ := hrel
    by_cases hlt : k < m.length
    · have hlt' : (k : Int) < m.length := by omega
      obtain ⟨⟨jd, jx⟩, hy⟩ : ∃ y, m[k]? = some y := ⟨_, List.getElem?_eq_getElem (by omega)⟩
      obtain ⟨g, o, rfl, hg, hc⟩ := HAs.out.at_ eltK hy
      have e0 := hc 0 _ rfl
      simp only [Nat.add_zero] at e0
      have hne : (jd == id) = false := by simpa using HF.out k _ hy
      clear hc hy
      go_wp2
      go_round
      case rel => exact ⟨k + 1, by omega, by go_num⟩
      case measure => simp [intOf]; omega
    · go_wp2
      go_ret
      exact ⟨rfl, rfl⟩

set_option maxHeartbeats 1000000 in
theorem rat_yes (h : RefAt B w bo v m n) (hn : (m.map (·.1)).Nodup) {id : Int} {x : Mk} (hx : lookM m id = some x) (hl : m.length ≤ 1000000) : Calls Try.prog 27 #[.pointer (some ⟨bo, 0, none⟩), .int .i64 id] w fun e w' => e = .returned (.tuple #[.int .i64 x.1, .bool true]) ∧ w = w' := by
  obtain ⟨i, hi, hf⟩ := idx_some hn hx
  obtain ⟨A, cp, rfl, hA1, hA2, hAs⟩ := h.own.shape eltK
  have c0 := h.c0
  have hil := (List.getElem?_eq_some_iff.1 hi).1
  obtain ⟨g, o, rfl, hg, hc⟩ := hAs.at_ eltK hi
  have e0 := hc 1 _ rfl
  simp only [← Nat.add_assoc] at e0
  have H := Lib.hid h
  have HI := Lib.hid hi
  have HF := Lib.hid hf
  have hil' : (i : Int) < m.length := by omega
  clear hi hf hAs h hA1 hA2 hc hx hn
  go_enter Try.func27, Try.ntmps27
  go_wp2_with (go_at_call 53; refine (rfind_yes H.out HI.out HF.out hl).mono ?_; rintro e w' ⟨rfl, rfl⟩)
  go_ret2
  exact ⟨rfl, rfl⟩
set_option maxHeartbeats 1000000 in
theorem radvance_yes (h : RefAt B w bo v m n) (hn : (m.map (·.1)).Nodup) {id : Int} {x : Mk} (hx : lookM m id = some x) (hl : m.length ≤ 1000000) : Calls Try.prog 29 #[.pointer (some ⟨bo, 0, none⟩), .int .i64 id] w fun e w' => e = .returned (.tuple #[.bool x.2, .bool true]) ∧ w = w' := by
  obtain ⟨i, hi, hf⟩ := idx_some hn hx
  obtain ⟨A, cp, rfl, hA1, hA2, hAs⟩ := h.own.shape eltK
  have c0 := h.c0
  have hil := (List.getElem?_eq_some_iff.1 hi).1
  obtain ⟨g, o, rfl, hg, hc⟩ := hAs.at_ eltK hi
  have e0 := hc 2 _ rfl
  simp only [← Nat.add_assoc] at e0
  have H := Lib.hid h
  have HI := Lib.hid hi
  have HF := Lib.hid hf
  have hil' : (i : Int) < m.length := by omega
  clear hi hf hAs h hA1 hA2 hc hx hn
  go_enter Try.func29, Try.ntmps29
  go_wp2_with (go_at_call 53; refine (rfind_yes H.out HI.out HF.out hl).mono ?_; rintro e w' ⟨rfl, rfl⟩)
  go_ret2
  exact ⟨rfl, rfl⟩
set_option maxHeartbeats 1000000 in
theorem rat_no (h : RefAt B w bo v m n) {id : Int} (hx : lookM m id = none) (hl : m.length ≤ 1000000) : Calls Try.prog 27 #[.pointer (some ⟨bo, 0, none⟩), .int .i64 id] w fun e w' => e = .returned (.tuple #[.int .i64 0, .bool false]) ∧ w = w' := by
  have H := Lib.hid h
  have HX := Lib.hid hx
  clear h hx
  go_enter Try.func27, Try.ntmps27
  go_wp2_with (go_at_call 53; refine (rfind_no H.out (idx_none HX.out) hl).mono ?_; rintro e w' ⟨rfl, rfl⟩)
  go_ret2
  exact ⟨rfl, rfl⟩
set_option maxHeartbeats 1000000 in
theorem radvance_no (h : RefAt B w bo v m n) {id : Int} (hx : lookM m id = none) (hl : m.length ≤ 1000000) : Calls Try.prog 29 #[.pointer (some ⟨bo, 0, none⟩), .int .i64 id] w fun e w' => e = .returned (.tuple #[.bool false, .bool false]) ∧ w = w' := by
  have H := Lib.hid h
  have HX := Lib.hid hx
  clear h hx
  go_enter Try.func29, Try.ntmps29
  go_wp2_with (go_at_call 53; refine (rfind_no H.out (idx_none HX.out) hl).mono ?_; rintro e w' ⟨rfl, rfl⟩)
  go_ret2
  exact ⟨rfl, rfl⟩

set_option maxHeartbeats 1000000 in
theorem rall_any (h : RefAt B w bo v m n) (hl : m.length ≤ 1000000) : Calls Try.prog 30 #[.pointer (some ⟨bo, 0, none⟩)] w (AllPost w m) := by
  obtain ⟨A, cp, rfl, hA1, hA2, hAs⟩ := h.own.shape eltK
  have hb := below1 w (.cells #[] 47)
  have c0 := (h.up hb).c0
  obtain ⟨v', w', happ, hown, hg, _⟩ := append_run eltK (ROwn.empty (enc := encK) (k := 3) w.heap.size w (Nat.le_refl _)) (by simp) (hAs.up hb) cp (by simp; omega) (by omega)
  have HP := Lib.hid happ
  have HO := Lib.hid hown
  clear happ hAs hA1 hA2 hown
  go_enter Try.func30, Try.ntmps30
  go_wp2_with (at_builtin; refine wpList_app_run rfl _ _ _ rfl rfl rfl HP.out ?_)
  go_ret
  exact ⟨_, rfl, by have := HO.out; simpa using this, hb.grown hg (by simp) (fun k hk => by simp [Value.ownBlock] at hk; omega)⟩
end
end Go.Proofs.Ytlnpjdihdemgmaa
