/- Registers: copyistkit.Same at numbers, LightTexts; same, few, call of copyistlaw25. -/
import Derived.Test.YtaofcnmajicpcaaGreatDoorKgQ
namespace Go.Proofs.YtaofcnmajicpcaaGreatDoor
open Go.RowKit
set_option linter.unusedVariables false
set_option linter.unusedSimpArgs false
section
variable {w w' : World} {A A' : Option Addr}
set_option maxHeartbeats 1000000 in
theorem sameI_true {L : List Int} (c c' : Nat) (h : RSl encI w A L) (h' : RSl encI w A' L) (hl : L.length ≤ 1000000) :
    Calls Tryz.prog 20 #[.slice A L.length c, .slice A' L.length c'] w fun e w' => e = .returned (.bool true) ∧ Below w.heap.size w w' := by
  have hne : ((L.length : Int) != (L.length : Int)) = false := by simp
  go_enter Tryz.func20, Tryz.ntmps20
  go_wp2
  clear hne
  go_loopw [5] (fun vi wr => ∃ k : Nat, k ≤ L.length ∧ vi = .int .i64 k ∧ Below w.heap.size w wr) (fun vi wr => L.length - (intOf vi).toNat)
  case atStart => exact ⟨0, by omega, rfl, Below.refl _ _⟩
  case round =>
    obtain ⟨k, hk, rfl, hbel⟩ := hrel
    by_cases hlt : k < L.length
    · obtain ⟨s, hx⟩ : ∃ x, L[k]? = some x := ⟨_, List.getElem?_eq_getElem hlt⟩
      obtain ⟨g, o, rfl, hg, hc⟩ := (h.up hbel).at_ eltI hx
      obtain ⟨g', o', rfl, hg', hc'⟩ := (h'.up hbel).at_ eltI hx
      have c0 := hc 0 _ rfl
      have d0 := hc' 0 _ rfl
      simp only [Nat.mul_one, Nat.add_zero] at c0 d0
      have hlt' : (k : Int) < L.length := by omega
      clear hc hc' hx
      go_wp2
      go_quiet (fail)
      go_wp2
      go_roundw
      case rel => exact ⟨k + 1, by omega, by go_num, ⟨hbel.os, hbel.tape, hbel.output, hbel.size, hbel.block⟩⟩
      case measure => simp [intOf]; omega
    · have hkn : k = L.length := by omega
      subst hkn
      go_wp2
      go_ret
      exact ⟨rfl, hbel⟩
set_option maxRecDepth 100000 in
set_option maxHeartbeats 1000000 in
theorem same_true {a b : Reg} (ha : RegIn w a) (hb : RegIn w b) (he : a.con = b.con) (hl : a.rows.length ≤ 1000000) :
    Calls Tryz.prog 21 #[regV a, regV b] w fun e w' => e = .returned (.bool true) ∧ Below w.heap.size w w' := by
  obtain ⟨k, n, id, t, A, c, rows⟩ := a
  obtain ⟨k', n', id', t', A', c', rows'⟩ := b
  have e := he
  simp only [Reg.con, Con.mk.injEq] at e
  obtain ⟨rfl, rfl, rfl, rfl, rfl⟩ := e
  have HS := Lib.hid (fun (w1 : World) (hw : Below w.heap.size w w1) => sameS_true c c' (ha.i.up hw) (hb.i.up hw) hl)
  have d0 : (t.toList == t.toList) = true := by simp
  clear ha hb he
  go_enter Tryz.func21, Tryz.ntmps21
  go_wp2_with fail
  refine (HS.out _ (up2 (below1 _ _) (below1 _ _))).mono ?_
  rintro e w1 ⟨rfl, hb⟩
  go_wp2_with fail
  go_ret
  exact ⟨rfl, up2 (up2 (below1 _ _) (below1 _ _)) hb⟩
def ltB (rows : List ByteArray) : Bool := rows.all (fun s => decide (s.size ≤ 40)) && decide (rows.length ≤ 6)
set_option maxRecDepth 100000 in
set_option maxHeartbeats 1000000 in
theorem ltexts_any {rows : List ByteArray} (c : Nat) (h : RSl encS w A rows) (hl : rows.length ≤ 9223372036854775807) (hts : ∀ s ∈ rows, s.size ≤ 9223372036854775807) :
    Calls Tryz.prog 25 #[.slice A rows.length c, .int .i64 6, .int .i64 40] w fun e w' => e = .returned (.bool (ltB rows)) ∧ w = w' := by
  have HL : Hid (ltB rows = (rows.all (fun s => decide (s.size ≤ 40)) && decide (rows.length ≤ 6))) := Lib.hid rfl
  go_enter Tryz.func25, Tryz.ntmps25
  go_wp2_with fail
  go_loop [7] (fun vi => ∃ k : Nat, k ≤ rows.length ∧ vi = .int .i64 k ∧ ∀ a ∈ rows.take k, a.size ≤ 40) (fun vi => rows.length - (intOf vi).toNat)
  case atStart => exact ⟨0, by omega, rfl, by simp⟩
  case round =>
    obtain ⟨k, hk, rfl, hall⟩ := hrel
    have HALL := Lib.hid hall
    clear hall
    by_cases hlt : k < rows.length
    · obtain ⟨a, hx⟩ : ∃ a, rows[k]? = some a := ⟨_, List.getElem?_eq_getElem hlt⟩
      obtain ⟨g, o, rfl, hg, hc⟩ := h.at_ eltS hx
      have c2 := hc 0 _ rfl
      have ht := hts a (List.mem_of_getElem? hx)
      have hmem := List.mem_of_getElem? hx
      have htk : rows.take (k + 1) = rows.take k ++ [a] := by rw [List.take_succ_eq_append_getElem hlt]; congr 2; exact (List.getElem?_eq_some_iff.1 hx).2
      have HTK := Lib.hid htk
      have HX := Lib.hid hx
      have hlt' : (k : Int) < rows.length := by omega
      simp only [Nat.mul_one, Nat.add_zero] at c2
      clear hc hx htk hts
      by_cases h40 : a.size ≤ 40
      · have d1 : decide ((40 : Int) < a.size) = false := decide_eq_false (by omega)
        go_wp2_with fail
        go_round
        case rel => exact ⟨k + 1, by omega, by go_num, by rw [HTK.out]; intro y hy; rcases List.mem_append.1 hy with h | h; exact HALL.out y h; rw [List.mem_singleton.1 h]; exact h40⟩
        case measure => simp [intOf]; omega
      · have d1 : decide ((40 : Int) < a.size) = true := decide_eq_true (by omega)
        go_wp2_with fail
        go_ret
        refine ⟨ret_bool ?_, rfl⟩
        rw [HL.out, eq_comm, Bool.and_eq_false_iff]
        left
        rw [List.all_eq_false]
        exact ⟨a, hmem, by simpa using h40⟩
    · have hkn : k = rows.length := by omega
      subst hkn
      have hal : rows.all (fun s => decide (s.size ≤ 40)) = true := by
        rw [List.all_eq_true]
        intro x hx
        have := HALL.out x (by rw [List.take_of_length_le (Nat.le_refl _)]; exact hx)
        simpa using this
      rw [hal, Bool.true_and] at HL
      have hde : decide ((rows.length : Int) ≤ 6) = decide (rows.length ≤ 6) := by rw [decide_eq_decide]; omega
      have HDE := Lib.hid hde
      clear hal hde
      go_wp2_with fail
      go_ret
      exact ⟨ret_bool (by rw [HL.out, ← HDE.out]), rfl⟩
/-- A call of registers. -/
structure CallE where
  kind : Int
  c : Int
  n : Int
  x : Reg
abbrev encC (e : CallE) : List Value := [.int .i64 e.kind, .int .i64 e.c, .int .i64 e.n, .int .i64 e.x.kind, .int .i64 e.x.n, .int .i64 e.x.id, .string e.x.text, .slice e.x.A e.x.rows.length e.x.c]
theorem eltC : Elt encC 23 30 8 88 (.agg #[.int .i64 0, .int .i64 0, .int .i64 0, .int .i64 0, .int .i64 0, .int .i64 0, .string ⟨#[]⟩, .slice none 0 0]) :=
  ⟨Tryz.underlying23, by kernel_rfl, rfl, by omega, fun _ => rfl, fun x u hu => by simp at hu; rcases hu with rfl | rfl | rfl | rfl | rfl | rfl | rfl | rfl <;> rfl⟩
def fewB (l : List CallE) : Bool := l.all (fun a => decide (a.x.text.size ≤ 40) && ltB a.x.rows) && decide (l.length ≤ 40)
set_option maxRecDepth 100000 in
set_option maxHeartbeats 1000000 in
theorem few_any {l : List CallE} (c : Nat) (h : RSl encC w A l) (hl : l.length ≤ 9223372036854775807) (hts : ∀ a ∈ l, a.x.text.size ≤ 9223372036854775807 ∧ RSl encS w a.x.A a.x.rows ∧ a.x.rows.length ≤ 9223372036854775807 ∧ ∀ s ∈ a.x.rows, s.size ≤ 9223372036854775807) :
    Calls Tryz.prog 6 #[.slice A l.length c] w fun e w' => e = .returned (.bool (fewB l)) ∧ w = w' := by
  have HL : Hid (fewB l = (l.all (fun a => decide (a.x.text.size ≤ 40) && ltB a.x.rows) && decide (l.length ≤ 40))) := Lib.hid rfl
  have HTS := Lib.hid hts
  clear hts
  go_enter Tryz.func6, Tryz.ntmps6
  go_wp2_with fail
  go_loop [3] (fun vi => ∃ k : Nat, k ≤ l.length ∧ vi = .int .i64 k ∧ ∀ a ∈ l.take k, (decide (a.x.text.size ≤ 40) && ltB a.x.rows) = true) (fun vi => l.length - (intOf vi).toNat)
  case atStart => exact ⟨0, by omega, rfl, by simp⟩
  case round =>
    obtain ⟨k, hk, rfl, hall⟩ := hrel
    have HALL := Lib.hid hall
    clear hall
    by_cases hlt : k < l.length
    · obtain ⟨a, hx⟩ : ∃ a, l[k]? = some a := ⟨_, List.getElem?_eq_getElem hlt⟩
      obtain ⟨g, o, rfl, hg, hc⟩ := h.at_ eltC hx
      have c6 := hc 6 _ rfl
      have c7 := hc 7 _ rfl
      obtain ⟨ht, hr1, hr2, hr3⟩ := HTS.out a (List.mem_of_getElem? hx)
      have HLT := Lib.hid (ltexts_any a.x.c hr1 hr2 hr3)
      have hmem := List.mem_of_getElem? hx
      have htk : l.take (k + 1) = l.take k ++ [a] := by rw [List.take_succ_eq_append_getElem hlt]; congr 2; exact (List.getElem?_eq_some_iff.1 hx).2
      have HTK := Lib.hid htk
      have HX := Lib.hid hx
      have hlt' : (k : Int) < l.length := by omega
      simp only [← Nat.add_assoc] at c6 c7
      clear hc hx htk hr1 hr3
      by_cases h40 : a.x.text.size ≤ 40
      · have d1 : decide ((40 : Int) < a.x.text.size) = false := decide_eq_false (by omega)
        cases hlb : ltB a.x.rows with
        | true =>
          rw [hlb] at HLT
          have HLB := Lib.hid hlb
          clear hlb
          go_wp2_with fail
          refine HLT.out.mono ?_
          rintro e w' ⟨rfl, rfl⟩
          go_wp2_with fail
          go_round
          case rel => exact ⟨k + 1, by omega, by go_num, by rw [HTK.out]; intro y hy; rcases List.mem_append.1 hy with h | h; exact HALL.out y h; rw [List.mem_singleton.1 h, HLB.out]; simpa using h40⟩
          case measure => simp [intOf]; omega
        | false =>
          rw [hlb] at HLT
          have HLB := Lib.hid hlb
          clear hlb
          go_wp2_with fail
          refine HLT.out.mono ?_
          rintro e w' ⟨rfl, rfl⟩
          go_wp2_with fail
          go_ret
          refine ⟨ret_bool ?_, rfl⟩
          rw [HL.out, eq_comm, Bool.and_eq_false_iff]
          left
          rw [List.all_eq_false]
          exact ⟨a, hmem, by rw [HLB.out]; simp⟩
      · have d1 : decide ((40 : Int) < a.x.text.size) = true := decide_eq_true (by omega)
        go_wp2_with fail
        go_ret
        refine ⟨ret_bool ?_, rfl⟩
        rw [HL.out, eq_comm, Bool.and_eq_false_iff]
        left
        rw [List.all_eq_false]
        exact ⟨a, hmem, by have : decide (a.x.text.size ≤ 40) = false := by simpa using h40
                           rw [this]; simp⟩
    · have hkn : k = l.length := by omega
      subst hkn
      have hal : l.all (fun a => decide (a.x.text.size ≤ 40) && ltB a.x.rows) = true := by
        rw [List.all_eq_true]
        intro x hx
        exact HALL.out x (by rw [List.take_of_length_le (Nat.le_refl _)]; exact hx)
      rw [hal, Bool.true_and] at HL
      have hde : decide ((l.length : Int) ≤ 40) = decide (l.length ≤ 40) := by rw [decide_eq_decide]; omega
      have HDE := Lib.hid hde
      clear hal hde
      go_wp2_with fail
      go_ret
      exact ⟨ret_bool (by rw [HL.out, ← HDE.out]), rfl⟩
end
end Go.Proofs.YtaofcnmajicpcaaGreatDoor
