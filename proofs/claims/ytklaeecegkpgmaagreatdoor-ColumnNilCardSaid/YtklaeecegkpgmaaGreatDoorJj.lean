import Derived.Test.YtklaeecegkpgmaaGreatDoorJd
import Derived.Test.YtklaeecegkpgmaaGreatDoorJc
import Derived.Laws.IdiomCopy
import Derived.Laws.MakeOwn
import Derived.Test.YtklaeecegkpgmaaGreatDoorJi
/- A fresh text: move, grow. -/
namespace Go.Proofs.YtklaeecegkpgmaaGreatDoor
open Go.RowKit
set_option linter.unusedVariables false
set_option linter.unusedSimpArgs false
/-- The cells of a text's block. -/
abbrev txtC (g L cap st en : Nat) (f : Value) : Array Value := #[.slice (some ⟨g, 0, none⟩) L cap, .int .i64 st, .int .i64 en, f]
section
variable {w w' : World} {t g : Nat}
set_option maxHeartbeats 1000000 in
theorem gmove0 (f : Value) (h : Blk w t 122 (txtC g 0 0 0 0 f)) : Calls Tryz.prog 158 #[.pointer (some ⟨t, 0, none⟩), .int .i64 0] w fun e w' => e = .returned (.tuple #[]) ∧ Only (fun k => k = t) w w' ∧ Blk w' t 122 (txtC g 0 0 0 0 f) := by
  have c0 := h.cell (j := 0) rfl
  have c1 := h.cell (j := 1) rfl
  have c2 := h.cell (j := 2) rfl
  have f1 := h.fz 1
  have f2 := h.fz 2
  have cp := fun w ty => run_copy_none (P := Tryz.prog) w 120 120 ty 21 (some ⟨g, 0, none⟩) (some ⟨g, 0, none⟩) 0 0 0 0 Tryz.underlying120 (by kernel_rfl) rfl
  have H := Lib.hid h
  clear h
  go_enter Tryz.func158, Tryz.ntmps158
  go_wp2_with fail
  go_region
  go_wp2_with fail
  go_region
  go_wp2_with fail
  go_end0
  refine ⟨rfl, ((((Only.refl (fun k => k = t) w).setCell (p := ⟨t, 1, none⟩) rfl _).setCell (p := ⟨t, 2, none⟩) rfl _).drew).drew, ?_⟩
  exact ((H.out.set (j := 1) (by simp) (.int .i64 0)).set (j := 2) (by simp) (.int .i64 0))
set_option maxRecDepth 100000 in
set_option maxHeartbeats 1000000 in
theorem ggrow0 (f : Value) (n : Nat) (hn : n ≤ 100000) (h : Blk w t 122 (txtC g 0 0 0 0 f)) (h1 : 1 ≤ n) : Calls Tryz.prog 175 #[.pointer (some ⟨t, 0, none⟩), .int .i64 n] w fun e w' => e = .returned (.tuple #[]) ∧ Only (fun k => k = t) w w' ∧
    Blk w' t 122 (txtC w.heap.size (n + 16) (n + 16) 0 (n + 16) f) ∧ w'.heap.size = w.heap.size + 1 ∧ Blk w' w.heap.size 21 (Array.replicate (n + 16) (.int .i32 0)) := by
  have c0 := h.cell (j := 0) rfl
  have c1 := h.cell (j := 1) rfl
  have c2 := h.cell (j := 2) rfl
  have f0 := h.fz 0
  have f2 := h.fz 2
  have ht := h.lt
  have d1 : decide ((n : Int) ≤ 0) = false := decide_eq_false (by omega)
  have s1 : IntKind.i64.wrap ((n : Int) - 0) = (n : Int) := by rw [IntWalk.i64_in _ (by omega)]; omega
  have s2 : IntKind.i64.wrap ((n : Int) + 0) = (n : Int) := by rw [IntWalk.i64_in _ (by omega)]; omega
  have hmk : ∀ w : World, (Instr.makeSlice 120 (.int .i64 ((n : Int) + 16)) (.int .i64 ((n : Int) + 16))).run Tryz.prog w = .ok (.slice (some ⟨w.heap.size, 0, none⟩) (n + 16) (n + 16)) (w.alloc (.cells (Array.replicate (n + 16) (.int .i32 0)) 21)) := fun w => by
    obtain ⟨i, hi, hsz, hby, hz⟩ : ∃ i, Tryz.prog.info? 21 = some i ∧ i.size = 1 ∧ i.bytes = 4 ∧ i.zero = some (.int .i32 0) := ⟨(Tryz.prog.info? 21).get (by kernel_rfl), (Option.some_get _).symm, by kernel_rfl, by kernel_rfl, by kernel_rfl⟩
    have hr := run_makeSlice (P := Tryz.prog) (w := w) 120 21 i (.int .i32 0) Tryz.underlying120 hi hz .i64 .i64 ((n : Int) + 16) ((n : Int) + 16) (by omega) (by omega) (by rw [hsz]; omega) (by rw [hby]; omega) (by omega)
    rw [hr, hsz]
    have e1 : ((n : Int) + 16).toNat = n + 16 := by omega
    have e2 : madeCells (Value.int .i32 0).cells ((n + 16) * 1) = Array.replicate (n + 16) (.int .i32 0) := by
      rw [Nat.mul_one]
      apply Array.ext
      · simp [madeCells]
      · intro j h1 h2
        simp [madeCells, Value.cells, Nat.mod_one]
    rw [e1, e2]
  generalize hZ : Array.replicate (n + 16) (Value.int .i32 0) = Z at *
  have cp := fun w ty d dLen dCap => run_copy_none (P := Tryz.prog) w 120 120 ty 21 d (some ⟨g, 0, none⟩) dLen dCap 0 0 Tryz.underlying120 (by kernel_rfl) (Nat.zero_min dLen)
  have H := Lib.hid h
  clear h
  go_enter Tryz.func175, Tryz.ntmps175
  go_wp2_with fail
  go_region
  go_wp2_with fail
  go_region
  go_wp2_with fail
  go_region
  go_wp2_with fail
  go_end0
  have hb2 := (H.out.set (j := 0) (by simp) (.slice (some ⟨w.heap.size, 0, none⟩) (n + 16) (n + 16))).set (j := 2) (by simp) (.int .i64 ((n : Int) + 16))
  have ho := ((Only.refl (fun k => k = t) w).setCell (p := ⟨t, 0, none⟩) rfl (.slice (some ⟨w.heap.size, 0, none⟩) (n + 16) (n + 16))).setCell (p := ⟨t, 2, none⟩) rfl (.int .i64 ((n : Int) + 16))
  have hs2 : ((w.setCell ⟨t, 0, none⟩ (.slice (some ⟨w.heap.size, 0, none⟩) (n + 16) (n + 16))).setCell ⟨t, 2, none⟩ (.int .i64 ((n : Int) + 16))).heap.size = w.heap.size := by simp
  generalize (w.setCell ⟨t, 0, none⟩ (.slice (some ⟨w.heap.size, 0, none⟩) (n + 16) (n + 16))).setCell ⟨t, 2, none⟩ (.int .i64 ((n : Int) + 16)) = W at *
  refine ⟨rfl, (((ho.alloc _).drew).drew).drew, ?_, ?_, ?_⟩
  · exact (hb2.up (below1 W (.cells Z 21)) : Blk _ _ _ _)
  · show (W.alloc (.cells Z 21)).heap.size = _
    simp [hs2]
  · have := Blk.made W 21 Z
    rw [hs2] at this
    exact this
end
end Go.Proofs.YtklaeecegkpgmaaGreatDoor
/- slices.BinarySearch and slices.Insert at an empty list; how many characters a string has. -/
namespace Go.Proofs.YtklaeecegkpgmaaGreatDoor
open Go.RowKit
set_option linter.unusedVariables false
set_option linter.unusedSimpArgs false
theorem count_chars (s : ByteArray) : ∀ (n pos : Nat) (cs : List Nat), s.size - pos ≤ n → pos ≤ s.size → charsD (s.data.toList.drop pos) = some cs → Lib.runeCountFrom s n pos = cs.length
  | 0, pos, cs, h1, h2, h => by
    have e : pos = s.size := by omega
    have : s.data.toList.drop pos = [] := List.drop_eq_nil_of_le (by rw [e]; simp)
    rw [this, charsD_nil] at h
    cases h; rfl
  | n + 1, pos, cs, h1, h2, h => by
    unfold Lib.runeCountFrom
    by_cases hp : pos < s.size
    · rw [if_pos hp]
      obtain ⟨c, t, rfl, _, hd, hle, hr, _⟩ := decode_step hp h
      rw [count_chars s n _ t (by omega) hle hr]
      simp; omega
    · rw [if_neg hp]
      have : s.data.toList.drop pos = [] := List.drop_eq_nil_of_le (by simp; omega)
      rw [this, charsD_nil] at h
      cases h; rfl
theorem rlenG_chars {s : ByteArray} (h : (charsD s.data.toList).isSome = true) : rlenG s = (chrs s).length := by
  obtain ⟨cs, hc⟩ := Option.isSome_iff_exists.1 h
  unfold rlenG
  rw [vld_chars, h, if_pos rfl]
  unfold chrs Lib.runeCount
  rw [hc]
  exact count_chars s s.size 0 cs (by omega) (by omega) (by simpa using hc)
section
variable {w w' : World}
set_option maxHeartbeats 1000000 in
theorem bsearch_nil (x : Int) : Calls Tryz.prog 159 #[.slice none 0 0, .int .i64 x] w fun e w' => e = .returned (.tuple #[.int .i64 0, .bool false]) ∧ w = w' := by
  go_enter Tryz.func159, Tryz.ntmps159
  go_wp2_with fail
  go_loopw [7, 8] (fun va vb wr => va = .int .i64 0 ∧ vb = .int .i64 0 ∧ w = wr) (fun _ _ _ => 0)
  case atStart => exact ⟨rfl, rfl, rfl⟩
  case round =>
    obtain ⟨rfl, rfl, rfl⟩ := hrel
    go_wp2_with fail
    go_ret2
    exact ⟨rfl, rfl⟩
set_option maxHeartbeats 1000000 in
theorem sinsert_nil {B : Nat} {v : Value} {ys : List Int} (hB : B ≤ w.heap.size) (hv : ROwn encI 3 1 B w v ys) (hl : ys.length ≤ 1000000) : Calls Tryz.prog 176 #[.slice none 0 0, .int .i64 0, v] w fun e w' => ∃ v', e = .returned v' ∧ ROwn encI 3 1 B w' v' ys ∧ Below w.heap.size w w' := by
  obtain ⟨A, cap, rfl, h1, h2, h3⟩ := hv.shape eltI
  clear hv h1 h2
  by_cases h0 : ys.length = 0
  · obtain rfl : ys = [] := List.eq_nil_of_length_eq_zero h0
    clear h3 h0 hl
    simp only [List.length_nil]
    go_enter Tryz.func176, Tryz.ntmps176
    go_wp2_with fail
    go_ret
    exact ⟨_, rfl, ROwn.nil _ _, Below.refl _ w⟩
  · obtain ⟨v', w2, hrun, hown, hgr, hsz⟩ := append_run eltI (ROwn.nil (enc := encI) (E := 3) (k := 1) B w) hB h3 cap (by simp; omega) (by omega)
    rw [List.nil_append] at hown
    have d0 : ((ys.length : Int) == 0) = false := by simpa using h0
    have HR := Lib.hid hrun
    have hbel : Below w.heap.size w w2 := (Below.refl w.heap.size w).grown hgr (Nat.le_refl _) (fun k hk => by simp [Value.ownBlock] at hk)
    have HB := Lib.hid hbel
    have HO := Lib.hid hown
    clear hrun hgr hsz hbel hown h3 h0 hl hB
    generalize ys.length = L at *
    go_enter Tryz.func176, Tryz.ntmps176
    go_wp2_with (at_builtin; refine wpList_app_run rfl _ _ _ rfl rfl rfl HR.out ?_)
    go_ret
    exact ⟨_, rfl, HO.out, HB.out⟩
end
end Go.Proofs.YtklaeecegkpgmaaGreatDoor
