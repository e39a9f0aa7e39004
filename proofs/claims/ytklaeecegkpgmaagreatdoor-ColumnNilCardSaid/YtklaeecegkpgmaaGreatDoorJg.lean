import Derived.Test.YtklaeecegkpgmaaGreatDoorJd
import Derived.Test.YtklaeecegkpgmaaGreatDoorJf
import Derived.Test.YtklaeecegkpgmaaGreatDoorJc
/- Package buffer: first over checks, unless. -/
namespace Go.Proofs.YtklaeecegkpgmaaGreatDoor
open Go.RowKit
set_option linter.unusedVariables false
set_option linter.unusedSimpArgs false
/-- A check: a function value without parameters, and the error that it hands back. -/
structure Chk where
  F : FuncId
  bd : Array Value
  cp : Array Value
  e : Int
abbrev Chk.val (c : Chk) : Value := .func (.func c.F) c.bd c.cp
def firstE : List Chk → Int
  | [] => 0
  | c :: L => if c.e = 0 then firstE L else c.e
theorem firstE_drop : ∀ (L : List Chk) (i : Nat), (∀ j c, L[j]? = some c → j < i → c.e = 0) → firstE (L.drop i) = firstE L
  | L, 0, _ => rfl
  | [], i + 1, _ => by simp
  | c :: L, i + 1, h => by
    have h0 : c.e = 0 := h 0 c rfl (by omega)
    rw [List.drop_succ_cons, firstE_drop L i (fun j d hd hj => h (j + 1) d (by simpa using hd) (by omega)), firstE, if_pos h0]
abbrev encK (c : Chk) : List Value := [c.val]
theorem eltK : Elt encK 117 72 1 8 Value.nilFunc := ⟨Tryz.underlying117, by kernel_rfl, rfl, by omega, fun _ => rfl, fun x u hu => by simp at hu; rcases hu with rfl; rfl⟩
section
variable {w w' : World} {A : Option Addr} {L : List Chk}
set_option maxHeartbeats 1000000 in
theorem first_any (hL : RSl encK w A L) (cap : Nat) (hl : L.length ≤ 1000) (hF : ∀ c ∈ L, Enters c.F)
    (hc : ∀ (i : Nat) (c : Chk) (w1 : World), L[i]? = some c → (∀ (j : Nat) (d : Chk), L[j]? = some d → j < i → d.e = 0) → Below w.heap.size w w1 → Calls Tryz.prog c.F (c.bd ++ c.cp) w1 fun r w2 => r = .returned (.int .i64 c.e) ∧ Below w1.heap.size w1 w2) :
    Calls Tryz.prog 49 #[.slice A L.length cap] w fun r w' => r = .returned (.int .i64 (firstE L)) ∧ Below w.heap.size w w' := by
  have HC := Lib.hid hc
  have HL := Lib.hid hL
  have HF := Lib.hid hF
  clear hc hL hF
  go_enter Tryz.func49, Tryz.ntmps49
  go_wp2_with fail
  go_loopw [8] (fun va wr => ∃ i : Nat, i ≤ L.length ∧ va = .int .i64 i ∧ (∀ (j : Nat) (d : Chk), L[j]? = some d → j < i → d.e = 0) ∧ Below w.heap.size w wr) (fun va _ => int2 va (.int .i64 L.length))
  case atStart => exact ⟨0, Nat.zero_le _, rfl, fun j d _ h => by omega, Below.refl _ w⟩
  case round =>
    obtain ⟨i, hi, rfl, hz, hb⟩ := hrel
    have HZ := Lib.hid hz
    have HB := Lib.hid hb
    clear hz hb
    by_cases hlt : i < L.length
    · have d1 : decide ((i : Int) < L.length) = true := decide_eq_true (by omega)
      obtain ⟨c, hx⟩ : ∃ c, L[i]? = some c := ⟨_, List.getElem?_eq_getElem hlt⟩
      obtain ⟨g, o, rfl, hg, hat⟩ := (HL.out.up HB.out).at_ eltK hx
      have k0 := hat 0 _ rfl
      rw [Nat.mul_one, Nat.add_zero] at k0
      have hlt' : (i : Int) < L.length := by omega
      have s1 : IntKind.i64.wrap ((i : Int) + 1) = ((i + 1 : Nat) : Int) := by rw [IntWalk.i64_in _ (by omega)]; omega
      have hin : ∀ (args : Array Value) (w : World), (callFunc c.F args).run Tryz.prog w = .ok (.enter c.F args) w := HF.out c (List.mem_of_getElem? hx)
      have HX := Lib.hid hx
      have HCC := Lib.hid (HC.out i c wr hx HZ.out HB.out)
      clear hat hg hx
      obtain ⟨F, bd, cp, e⟩ := c
      by_cases he : e = 0
      · have HE := Lib.hid he
        have d2 : ((e : Int) != 0) = false := by simp [he]
        clear he
        go_wp2_with fail
        refine HCC.out.mono ?_
        rintro r w1 ⟨rfl, hb1⟩
        go_wp2_with fail
        go_roundw
        case rel =>
          refine ⟨i + 1, by omega, by first | rfl | go_num, fun j d hd hj => ?_, up2 HB.out hb1⟩
          by_cases hji : j = i
          · subst hji
            rw [HX.out] at hd; cases hd; exact HE.out
          · exact HZ.out j d hd (by omega)
        case measure => simp [int2]; omega
      · have HE := Lib.hid he
        have d2 : ((e : Int) != 0) = true := by simp [he]
        clear he
        go_wp2_with fail
        refine HCC.out.mono ?_
        rintro r w1 ⟨rfl, hb1⟩
        go_wp2_with fail
        go_ret
        refine ⟨?_, up2 HB.out hb1⟩
        rw [← firstE_drop L i HZ.out, List.drop_eq_getElem_cons hlt, (List.getElem_eq_iff hlt).2 HX.out, firstE, if_neg HE.out]; rfl
    · have d1 : decide ((i : Int) < L.length) = false := decide_eq_false (by omega)
      go_wp2_with fail
      go_ret
      refine ⟨?_, HB.out⟩
      rw [← firstE_drop L i HZ.out, List.drop_eq_nil_of_le (by omega)]; rfl
end
end Go.Proofs.YtklaeecegkpgmaaGreatDoor
/- Package buffer: unless, within, reach; checks laid as closures. -/
namespace Go.Proofs.YtklaeecegkpgmaaGreatDoor
open Go.RowKit
set_option linter.unusedVariables false
set_option linter.unusedSimpArgs false
/-- A check that has been made: from w on it hands back its error. -/
structure ChkAt (w : World) (P : Prop) (c : Chk) : Prop where
  en : Enters c.F
  run : P → ∀ w1, Below w.heap.size w w1 → Calls Tryz.prog c.F (c.bd ++ c.cp) w1 fun r w2 => r = .returned (.int .i64 c.e) ∧ Below w1.heap.size w1 w2
section
variable {w w' : World} {P : Prop} {c : Chk}
theorem ChkAt.up (h : ChkAt w P c) (hb : Below w.heap.size w w') : ChkAt w' P c := ⟨h.en, fun p w1 hb1 => h.run p w1 (up2 hb hb1)⟩
theorem al2 (w : World) (x y : Value) (T U : TypeId) : ((w.alloc (.cells #[x] T)).alloc (.cells #[y] U)).cell? ⟨w.heap.size, 0, none⟩ = some x ∧ ((w.alloc (.cells #[x] T)).alloc (.cells #[y] U)).cell? ⟨w.heap.size + 1, 0, none⟩ = some y := by
  have h0 : (w.alloc (.cells #[x] T)).heap.size = w.heap.size + 1 := by simp
  constructor
  · rw [World.cell?_of_block (w := w.alloc (.cells #[x] T)) (a := ⟨w.heap.size, 0, none⟩) ((MapKept.heap_alloc _ _).2 _ (by simp))]
    simp only [World.cell?, (MapKept.heap_alloc w (.cells #[x] T)).1]
    rfl
  · have := (MapKept.heap_alloc (w.alloc (.cells #[x] T)) (.cells #[y] U)).1
    rw [h0] at this
    simp only [World.cell?, this]
    rfl
theorem below2 (w : World) (x y : Obj) : Below w.heap.size w ((w.alloc x).alloc y) := (below1 w x).alloc (by simp) y
set_option maxHeartbeats 1000000 in
theorem unless_ok (e : Int) (F : FuncId) (bd cp : Array Value) (w : World) : Calls Tryz.prog 90 #[.int .i64 e, .func (.func F) bd cp] w fun r w' =>
    r = .returned (.func (.func 138) #[] #[.pointer (some ⟨w.heap.size + 1, 0, none⟩), .pointer (some ⟨w.heap.size, 0, none⟩)]) ∧ Below w.heap.size w w' ∧
    w'.cell? ⟨w.heap.size, 0, none⟩ = some (.int .i64 e) ∧ w'.cell? ⟨w.heap.size + 1, 0, none⟩ = some (.func (.func F) bd cp) := by
  go_enter Tryz.func90, Tryz.ntmps90
  go_wp2_with fail
  go_ret
  exact ⟨rfl, below2 w _ _, (al2 w _ _ _ _).1, (al2 w _ _ _ _).2⟩
set_option maxHeartbeats 1000000 in
theorem unless1_ok {e : Int} {F : FuncId} {bd cp : Array Value} {p : Bool} {be bf : Nat} (hF : Enters F) (he : w.cell? ⟨be, 0, none⟩ = some (.int .i64 e)) (hf : w.cell? ⟨bf, 0, none⟩ = some (.func (.func F) bd cp))
    (hc : Calls Tryz.prog F (bd ++ cp) w fun r w2 => r = .returned (.bool p) ∧ Below w.heap.size w w2) :
    Calls Tryz.prog 138 #[.pointer (some ⟨bf, 0, none⟩), .pointer (some ⟨be, 0, none⟩)] w fun r w2 => r = .returned (.int .i64 (if p then 0 else e)) ∧ Below w.heap.size w w2 := by
  have hin : ∀ (args : Array Value) (w : World), (callFunc F args).run Tryz.prog w = .ok (.enter F args) w := hF
  have HC := Lib.hid hc
  have HE := Lib.hid he
  clear hc hF he
  go_enter Tryz.func138, Tryz.ntmps138
  go_wp2_with fail
  refine HC.out.mono ?_
  rintro r w1 ⟨rfl, hb1⟩
  have he1 : w1.cell? ⟨be, 0, none⟩ = some (.int .i64 e) := (World.cell?_of_block (w := w) (a := ⟨be, 0, none⟩) (hb1.block _ (lt_of_cell HE.out))).trans HE.out
  cases p with
  | true =>
    go_wp2_with fail
    go_ret
    exact ⟨rfl, hb1⟩
  | false =>
    go_wp2_with fail
    go_ret
    exact ⟨rfl, hb1⟩
/-- The check that 'unless' makes. -/
abbrev unlC (be bf : Nat) (e : Int) : Chk := ⟨138, #[], #[.pointer (some ⟨bf, 0, none⟩), .pointer (some ⟨be, 0, none⟩)], e⟩
theorem ChkAt.unless {e : Int} {F : FuncId} {bd cp : Array Value} {p : Bool} {be bf : Nat} (hF : Enters F) (he : w.cell? ⟨be, 0, none⟩ = some (.int .i64 e)) (hf : w.cell? ⟨bf, 0, none⟩ = some (.func (.func F) bd cp))
    (hc : P → ∀ w1, Below w.heap.size w w1 → Calls Tryz.prog F (bd ++ cp) w1 fun r w2 => r = .returned (.bool p) ∧ Below w1.heap.size w1 w2) : ChkAt w P (unlC be bf (if p then 0 else e)) :=
  ⟨enters_mk Tryz.func138 (by kernel_rfl) rfl, fun hp w1 hb => by
    have := unless1_ok (w := w1) (be := be) (bf := bf) hF ((World.cell?_of_block (w := w) (a := ⟨be, 0, none⟩) (hb.block _ (lt_of_cell he))).trans he) ((World.cell?_of_block (w := w) (a := ⟨bf, 0, none⟩) (hb.block _ (lt_of_cell hf))).trans hf) (hc hp w1 hb)
    exact this⟩
/-- A buffer's cells: positions, flags, ticks, parts, the log's flags. -/
structure BS where
  pt : Nat
  lo : Nat
  hi : Nat
  mark : Nat
  marked : Bool
  ro : Bool
  fo : Bool
  tick : Nat
  clean : Nat
  t : Nat
  m : Nat
  p : Nat
  o : Nat
  l : Nat
  logs : Bool
  empty : Bool
  lock : Int
  saved : Value
  tokens : Nat
abbrev pAt (b : Nat) : Value := .pointer (some ⟨b, 0, none⟩)
abbrev bufC (S : BS) : Array Value := #[.int .i64 S.pt, .int .i64 S.lo, .int .i64 S.hi, .int .i64 S.mark, .bool S.marked, .bool S.ro, .bool S.fo, .int .i64 S.tick, .int .i64 S.clean, pAt S.t, pAt S.m, pAt S.p, pAt S.o, pAt S.l, .bool S.logs, .bool S.empty, .int .i64 S.lock, S.saved, .int .i64 S.tokens]
abbrev BufB (w : World) (b : Nat) (S : BS) : Prop := Blk w b 92 (bufC S)
variable {b : Nat} {S : BS}
set_option maxHeartbeats 1000000 in
theorem reach_ok (h : BufB w b S) (x y : Int) : Calls Tryz.prog 92 #[pAt b, .int .i64 x, .int .i64 y] w fun r w2 => r = .returned (.bool (decide ((S.lo : Int) ≤ x) && decide (x ≤ y) && decide (y ≤ (S.hi : Int)))) ∧ w = w2 := by
  obtain ⟨lo, hlo⟩ : ∃ lo : Int, (S.lo : Int) = lo := ⟨_, rfl⟩
  obtain ⟨hi, hhi⟩ : ∃ hi : Int, (S.hi : Int) = hi := ⟨_, rfl⟩
  have c1 : w.cell? ⟨b, 1, none⟩ = some (.int .i64 (S.lo : Int)) := h.cell (j := 1) rfl
  have c2 : w.cell? ⟨b, 2, none⟩ = some (.int .i64 (S.hi : Int)) := h.cell (j := 2) rfl
  rw [hlo] at c1 ⊢
  rw [hhi] at c2 ⊢
  clear h hlo hhi
  cases d1 : decide (lo ≤ x) <;> cases d2 : decide (x ≤ y) <;> cases d3 : decide (y ≤ hi)
  all_goals
    go_enter Tryz.func92, Tryz.ntmps92
    go_wp2_with fail
    go_ret
    exact ⟨rfl, rfl⟩
end
end Go.Proofs.YtklaeecegkpgmaaGreatDoor
