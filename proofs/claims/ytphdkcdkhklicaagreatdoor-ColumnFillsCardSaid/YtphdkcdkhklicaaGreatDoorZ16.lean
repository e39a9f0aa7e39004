import Derived.Test.YtphdkcdkhklicaaGreatDoorZ15
import Derived.Test.YtphdkcdkhklicaaGreatDoorZ13
import Derived.Test.YtphdkcdkhklicaaGreatDoorZ00
/- package buffer: the log of a plain buffer opened; stand, revert, Boundary, Widen, Narrow, All, Text. -/
namespace Go.Proofs.YtphdkcdkhklicaaGreatDoor
open Go.RowKit Go.Lib
set_option linter.unusedVariables false
set_option linter.unusedSimpArgs false
section
variable {N : Nat} {w w' : World} {b mm : Nat} {F F' Fg Fl : Nat → Prop} {pr ev : Int} {T T' : Tx} {co nw co' nw' : Int} {B B' : Nat}
/-- A turn of the log alone. -/
theorem PlainX.setLog {S : BS} {cs : List Nat} {L L' : LgS} {Fl' : Nat → Prop} (h : PlainX w b Fg Fl mm pr ev S cs L) (ho : Only Fl w w') (hl : LogF1 w' S.l Fl' L'.G L'.O L'.ch L'.co L'.nw) (h1 : ∀ k, Fl' k → grow Fl w.heap.size k ∧ k < w'.heap.size) :
    PlainX w' b Fg Fl' mm pr ev S cs L' := by
  refine ⟨h.blk.only ho h.fl.1, h.gap.only ho (fun k hk _ => h.fgl k hk), hl, h.mks.only ho h.fl.2.1 h.fl.2.2.1, h.prs.only ho h.fl.2.2.2.1, h.ovs.only ho h.fl.2.2.2.2, h.sv, fun k hk e => ?_, h.fg, ?_, h.ne, fun k hk => Nat.lt_of_lt_of_le (h.bg k hk) ho.size, fun k hk => (h1 k hk).2⟩
  · exact (h1 k e).1.elim (h.fgl k hk) (fun q => by have := h.bg k hk; omega)
  · have lt : ∀ k, k < w.heap.size → ¬ Fl k → ¬ Fl' k := fun k hk hn e => (h1 k e).1.elim hn (fun q => by omega)
    exact ⟨lt _ h.blk.lt h.fl.1, lt _ h.mks.lt.1 h.fl.2.1, lt _ h.mks.lt.2 h.fl.2.2.1, lt _ h.prs.lt h.fl.2.2.2.1, lt _ h.ovs.lt h.fl.2.2.2.2⟩
/-- The log opened, and laid back. n: a bound of what is the buffer's behind it. -/
theorem PB.log (h : PB N w b F T B) : ∃ Fl co nw, LogF1 w T.S.l Fl T.G T.O T.ch co nw ∧ (∀ k, Fl k → F k) ∧ (∀ k, Fl k → N ≤ k) ∧ T.O.length ≤ B ∧ T.G.length ≤ B ∧ 0 ≤ nw ∧ nw ≤ B ∧ 0 ≤ co ∧ co ≤ B ∧ (T.O = [] → nw = 0) ∧
    ∀ (w' : World) (Fl' : Nat → Prop) (G' : List (List Chg)) (O' : List Chg) (ch' co' nw' : Int) (B' n : Nat), Only Fl w w' → w.heap.size ≤ n → n ≤ w'.heap.size → LogF1 w' T.S.l Fl' G' O' ch' co' nw' → (∀ k, Fl' k → grow Fl w.heap.size k ∧ k < n) →
      O'.length ≤ B' → G'.length ≤ B' → 0 ≤ nw' → nw' ≤ B' → 0 ≤ co' → co' ≤ B' → (O' = [] → nw' = 0) → T.S.tick ≤ B' → Only F w w' ∧ PB N w' b (fun k => grow F w.heap.size k ∧ k < n) { T with G := G', O := O', ch := ch' } B' := by
  obtain ⟨Fg, Fl, mm, pr, ev, co, nw, hx, hd⟩ := h
  refine ⟨Fl, co, nw, hx.log, fun k hk => hd.foot k (.inr (.inr (.inl hk))), hd.abv.l, hd.o, hd.g, hd.n0, hd.n1, hd.c0, hd.c1, hd.nz, ?_⟩
  intro w' Fl' G' O' ch' co' nw' B' n ho hn1 hn2 hl hf e1 e2 e3 e4 e5 e6 e7 e8
  have hx' : PlainX w' b Fg Fl' mm pr ev T.S T.cs ⟨G', O', ch', co', nw'⟩ := hx.setLog (L' := ⟨G', O', ch', co', nw'⟩) ho hl (fun k hk => ⟨(hf k hk).1, by have := (hf k hk).2; omega⟩)
  refine ⟨ho.mono (fun k hk => hd.foot k (.inr (.inr (.inl hk)))), Fg, Fl', mm, pr, ev, co', nw', hx', ⟨hd.abv.b, hd.abv.g, fun k hk => (hf k hk).1.elim (hd.abv.l k) (fun e => by have := hd.abv.b; have := hx.blk.lt; omega), hd.abv.p, hd.abv.o⟩, hd.sane, fun k hk => ?_, e1, e3, e4, e5, e6, e2, e7, e8, hd.logs⟩
  rcases hk with hk | hk | hk | hk
  · exact ⟨.inl (hd.foot k (.inl hk)), by subst hk; have := hx.blk.lt; omega⟩
  · exact ⟨.inl (hd.foot k (.inr (.inl hk))), by have := hx.bg k hk; omega⟩
  · exact ⟨(hf k hk).1.elim (fun e => .inl (hd.foot k (.inr (.inr (.inl e))))) .inr, (hf k hk).2⟩
  · have hq : plFoot b Fg Fl mm T.S k := .inr (.inr (.inr hk))
    exact ⟨.inl (hd.foot k hq), by have := hx.foot_lt hq; omega⟩
/-- Only the buffer's own block turned. -/
theorem PB.turn {S2 : BS} (h : PB N w b F T B) (ho : Only (fun k => k = b) w w') (hk : BufB w' b S2) (h2 : S2.t = T.S.t ∧ S2.m = T.S.m ∧ S2.p = T.S.p ∧ S2.o = T.S.o ∧ S2.l = T.S.l ∧ S2.saved = T.S.saved)
    (hs : Sane S2 T.cs.length) (ht : S2.tick ≤ B) (hl : S2.logs = true) : Only F w w' ∧ PB N w' b F { T with S := S2 } B := by
  obtain ⟨Fg, Fl, mm, pr, ev, co, nw, hx, hd⟩ := h
  obtain ⟨e1, e2, e3, e4, e5, e6⟩ := h2
  refine ⟨ho.mono (fun k hk => hk ▸ hd.foot b (.inl rfl)), Fg, Fl, mm, pr, ev, co, nw, ⟨hk, ?_, ?_, ?_, ?_, ?_, by rw [← hx.sv]; exact e6, hx.fgl, by rw [e2, e3, e4]; exact hx.fg, by rw [e2, e3, e4]; exact hx.fl, by rw [e2, e3, e4]; exact hx.ne, fun k hk => Nat.lt_of_lt_of_le (hx.bg k hk) ho.size, fun k hk => Nat.lt_of_lt_of_le (hx.bl k hk) ho.size⟩,
    ⟨hd.abv.b, hd.abv.g, hd.abv.l, by dsimp only; rw [e3]; exact hd.abv.p, by dsimp only; rw [e4]; exact hd.abv.o⟩, hs, fun k hk => hd.foot k ?_, hd.o, hd.n0, hd.n1, hd.c0, hd.c1, hd.g, hd.nz, ht, hl⟩
  · rw [e1]; exact hx.gap.only ho (fun k hk _ e => hx.fg.1 (e ▸ hk))
  · rw [e5]; exact hx.log.only ho (fun k hk _ e => hx.fl.1 (e ▸ hk))
  · rw [e2]; exact hx.mks.only ho (fun e => hx.ne.1 e.symm) (fun e => hx.ne.2.1 e.symm)
  · rw [e3]; exact hx.prs.only ho (fun e => hx.ne.2.2.1 e.symm)
  · rw [e4]; exact hx.ovs.only ho (fun e => hx.ne.2.2.2.1 e.symm)
  · unfold plFoot at hk ⊢; dsimp only at hk; rw [e2, e3, e4] at hk; exact hk
theorem PB.tick (h : PB N w b F T B) : T.S.tick ≤ B := by obtain ⟨_, _, _, _, _, _, _, _, hd⟩ := h; exact hd.tick
/-- Behind stand. -/
def standT (T : Tx) (a : Nat) : Tx := { T with S := { T.S with pt := min (max a T.S.lo) T.S.hi } }
theorem pstand (h : PB N w b F T B) (a : Nat) : Calls Tryz.prog 131 #[pAt b, .int .i64 a] w fun r w' => r = .returned (.tuple #[]) ∧ Only F w w' ∧ PB N w' b F (standT T a) B := by
  refine (stand_ok h.blk a).mono ?_
  rintro r w' ⟨rfl, ho, hk⟩
  have hs := h.sane
  have g2 := hs.lp; have g3 := hs.ph
  exact ⟨rfl, h.turn ho hk ⟨rfl, rfl, rfl, rfl, rfl, rfl⟩ ⟨hs.l1, by dsimp only; omega, by dsimp only; omega, hs.hn, hs.ma⟩ h.tick h.logs⟩
/-- A change that can be undone at a state. -/
def RevOk (T : Tx) (c : Chg) : Prop :=
  (c.k = 1 ∧ 1 ≤ c.a ∧ c.a ≤ c.b ∧ c.b ≤ T.cs.length + 1) ∨ (c.k = 2 ∧ 1 ≤ c.a ∧ c.a ≤ T.cs.length + 1 ∧ (charsD c.tx.data.toList).isSome = true ∧ c.tx.size ≤ 262144 ∧ T.cs.length + (chrs c.tx).length ≤ 65536) ∨ (c.k = 4 ∧ 0 ≤ c.a) ∨ c.k = 6
/-- Behind revert. -/
def revT (T : Tx) (c : Chg) : Tx :=
  if c.k = 1 then standT (takeT T c.a.toNat c.b.toNat) c.a.toNat else if c.k = 2 then standT (putT T c.a.toNat (chrs c.tx) false) c.a.toNat else if c.k = 4 then standT T c.a.toNat else { T with S := { T.S with clean := T.S.tick } }
def revC (c : Chg) : Nat := if c.k = 1 then (c.b.toNat - c.a.toNat) + 4 else 4
end
section
variable {N : Nat} {w w' : World} {b mm : Nat} {F F' Fg Fl : Nat → Prop} {pr ev : Int} {T T' : Tx} {co nw co' nw' : Int} {B B' : Nat}
theorem PB.growF {n m : Nat} (h : PB N w b (grow F n) T B) (hm : m ≤ n) : PB N w b (grow F m) T B := h.mono (grow_mono (fun k h => h) hm) (Nat.le_refl _)
set_option maxRecDepth 100000 in
set_option maxHeartbeats 2000000 in
theorem prevert {c : Chg} (hT : Tabs N w) (hR : Rules N w) (h : PB N w b F T B) (hF : edF N F) (hB : B + revC c ≤ 900000) (hok : RevOk T c) :
    Calls Tryz.prog 81 #[pAt b, chgV c] w fun r w' => r = .returned (.tuple #[]) ∧ Only F w w' ∧ PB N w' b (grow F w.heap.size) (revT T c) (B + revC c) := by
  obtain ⟨k, a, e, id, nm, tx, vk, vn, had⟩ := c
  have hb := below1 w (.cells (chgA ⟨k, a, e, id, nm, tx, vk, vn, had⟩) 113)
  have hk := Blk.made w 113 (chgA ⟨k, a, e, id, nm, tx, vk, vn, had⟩)
  have hz : (w.alloc (.cells (chgA ⟨k, a, e, id, nm, tx, vk, vn, had⟩) 113)).heap.size = w.heap.size + 1 := by simp
  have hlt := h.bound
  unfold RevOk revC at *
  unfold revT
  dsimp only at hok hB ⊢
  rcases hok with ⟨rfl, h1, h2, h3⟩ | ⟨rfl, h1, h2, h3, h4, h5⟩ | ⟨rfl, h1⟩ | rfl
  · obtain ⟨x, rfl⟩ : ∃ x : Nat, a = x := ⟨a.toNat, by omega⟩
    obtain ⟨y, rfl⟩ : ∃ y : Nat, e = y := ⟨e.toNat, by omega⟩
    simp only [if_true, Int.toNat_natCast] at hB ⊢
    have HX := Lib.hid (ptake (hT.up hb) (hR.up hb) (hlt.up hb) (by omega) x y (by omega) (by omega) (by omega))
    have H := Lib.hid h
    have HK := Lib.hid hk
    have HB := Lib.hid hb
    have HZ := Lib.hid hz
    have k0 := hk.cell (j := 0) rfl
    have k1 : _ = some (Value.int .i64 (x : Int)) := hk.cell (j := 1) rfl
    have k2 : _ = some (Value.int .i64 (y : Int)) := hk.cell (j := 2) rfl
    clear hT hR h hb hz hlt hk hB hF
    obtain ⟨T2, hT2⟩ : ∃ T2, T2 = standT (takeT T x y) x := ⟨_, rfl⟩
    rw [← hT2]
    have HE := Lib.hid hT2
    clear hT2 h1 h2 h3
    go_enter Tryz.func81, Tryz.ntmps81
    go_wp2_with fail
    generalize w.alloc (.cells (chgA ⟨1, (x : Int), (y : Int), id, nm, tx, vk, vn, had⟩) 113) = W at *
    refine HX.out.mono ?_
    rintro r w2 ⟨rfl, ho2, hp2⟩
    have hk2 := HK.out.only ho2 (fun e => by have := e.2; omega)
    have O2 := Lib.hid ho2
    have P2 := Lib.hid hp2
    have q1 : _ = some (Value.int .i64 (x : Int)) := hk2.cell (j := 1) rfl
    clear ho2 hp2 hk2 k0 k1 k2 HX
    go_wp2_with fail
    refine (pstand P2.out x).mono ?_
    rintro r w3 ⟨rfl, ho3, hp3⟩
    have O3 := Lib.hid ho3
    have P3 := Lib.hid hp3
    clear ho3 hp3
    go_wp2_with fail
    go_end0
    have hz2 := O2.out.size
    have HE' := HE.out
    have hZ' := HZ.out
    refine ⟨rfl, ?_, ?_⟩
    · exact ((Only.of_below HB.out).trans (O2.out.mono (fun k hk => hk.1))).then O3.out (fun k hk hlt => hk.elim (fun e => e.1) (fun e => by omega))
    · rw [HE']
      exact (P3.out.mono (fun k hk => hk.elim (fun e => .inl e.1) (fun e => .inr (by omega))) (Nat.le_refl _))
  · obtain ⟨x, rfl⟩ : ∃ x : Nat, a = x := ⟨a.toNat, by omega⟩
    simp only [Int.reduceEq, if_true, if_false, Int.toNat_natCast] at hB ⊢
    have HX := Lib.hid (pput (hT.up hb) (hR.up hb) (hlt.up hb) (by omega) x (by omega) (by omega) tx h4 h3 h5 false)
    have H := Lib.hid h
    have HK := Lib.hid hk
    have HB := Lib.hid hb
    have HZ := Lib.hid hz
    have k0 := hk.cell (j := 0) rfl
    have k1 : _ = some (Value.int .i64 (x : Int)) := hk.cell (j := 1) rfl
    have k5 : _ = some (Value.string tx) := hk.cell (j := 5) rfl
    clear hT hR h hb hz hlt hk hB hF
    obtain ⟨T2, hT2⟩ : ∃ T2, T2 = standT (putT T x (chrs tx) false) x := ⟨_, rfl⟩
    rw [← hT2]
    have HE := Lib.hid hT2
    clear hT2 h1 h2 h3 h4 h5
    go_enter Tryz.func81, Tryz.ntmps81
    go_wp2_with fail
    generalize w.alloc (.cells (chgA ⟨2, (x : Int), e, id, nm, tx, vk, vn, had⟩) 113) = W at *
    refine HX.out.mono ?_
    rintro r w2 ⟨rfl, ho2, hp2⟩
    have hk2 := HK.out.only ho2 (fun e => by have := e.2; omega)
    have O2 := Lib.hid ho2
    have P2 := Lib.hid hp2
    have q1 : _ = some (Value.int .i64 (x : Int)) := hk2.cell (j := 1) rfl
    clear ho2 hp2 hk2 k0 k1 k5 HX
    go_wp2_with fail
    refine (pstand P2.out x).mono ?_
    rintro r w3 ⟨rfl, ho3, hp3⟩
    have O3 := Lib.hid ho3
    have P3 := Lib.hid hp3
    clear ho3 hp3
    go_wp2_with fail
    go_end0
    have hz2 := O2.out.size
    have HE' := HE.out
    have hZ' := HZ.out
    refine ⟨rfl, ?_, ?_⟩
    · exact ((Only.of_below HB.out).trans (O2.out.mono (fun k hk => hk.1))).then O3.out (fun k hk hlt => hk.elim (fun e => e.1) (fun e => by omega))
    · rw [HE']
      exact (P3.out.mono (fun k hk => hk.elim (fun e => .inl e.1) (fun e => .inr (by omega))) (Nat.le_refl _))
  · obtain ⟨x, rfl⟩ : ∃ x : Nat, a = x := ⟨a.toNat, by omega⟩
    simp only [Int.reduceEq, if_true, if_false, Int.toNat_natCast] at hB ⊢
    have HX := Lib.hid (pstand (h.up hb) x)
    have H := Lib.hid h
    have HK := Lib.hid hk
    have HB := Lib.hid hb
    have HZ := Lib.hid hz
    have k0 := hk.cell (j := 0) rfl
    have k1 : _ = some (Value.int .i64 (x : Int)) := hk.cell (j := 1) rfl
    clear hT hR h hb hz hlt hk hB hF
    obtain ⟨T2, hT2⟩ : ∃ T2, T2 = standT T x := ⟨_, rfl⟩
    rw [← hT2] at HX ⊢
    clear hT2 h1
    go_enter Tryz.func81, Tryz.ntmps81
    go_wp2_with fail
    generalize w.alloc (.cells (chgA ⟨4, (x : Int), e, id, nm, tx, vk, vn, had⟩) 113) = W at *
    refine HX.out.mono ?_
    rintro r w2 ⟨rfl, ho2, hp2⟩
    have O2 := Lib.hid ho2
    have P2 := Lib.hid hp2
    clear ho2 hp2 HX
    go_wp2_with fail
    go_end0
    exact ⟨rfl, (Only.of_below HB.out).trans O2.out, P2.out.mono (fun k hk => .inl hk) (by omega)⟩
  · simp only [Int.reduceEq, if_true, if_false] at hB ⊢
    have hsn := h.sane
    have HX := Lib.hid (PB.cell (j := 8) (v := .int .i64 (T.S.tick : Int)) (S2 := { T.S with clean := T.S.tick }) (h.up hb) (by omega) rfl ⟨rfl, rfl, rfl, rfl, rfl, rfl⟩ ⟨hsn.l1, hsn.lp, hsn.ph, hsn.hn, hsn.ma⟩ h.tick h.logs)
    have q7 : _ = some (Value.int .i64 (T.S.tick : Int)) := (h.up hb).blk.cell (j := 7) rfl
    have q8 := (h.up hb).blk.cell (j := 8) rfl
    have f8 := (h.up hb).blk.fz 8
    have H := Lib.hid h
    have HK := Lib.hid hk
    have HB := Lib.hid hb
    have HZ := Lib.hid hz
    have k0 := hk.cell (j := 0) rfl
    clear hT hR h hb hz hlt hk hB hF
    clear hsn
    go_enter Tryz.func81, Tryz.ntmps81
    go_wp2_with fail
    generalize w.alloc (.cells (chgA ⟨6, a, e, id, nm, tx, vk, vn, had⟩) 113) = W at *
    go_end0
    have := PB.then (T1 := T) (B1 := B) HB.out HX.out
    exact ⟨rfl, this.1, this.2.mono (fun k hk => hk) (by omega)⟩
end
end Go.Proofs.YtphdkcdkhklicaaGreatDoor
/- Regions that draw their order, as in the text Mix; making a function value is among the pure operations. -/
namespace Go.Proofs.YtphdkcdkhklicaaGreatDoor
open Go.RowKit
set_option linter.unusedVariables false
/-- An operation that yields a value and leaves the world. -/
def pureOpF (o : Oper) : Bool := match o.op with
  | .move _ | .assign _ | .pick _ _ _ | .build _ _ | .load _ _ | .nilCheck _ | .binOp _ _ _ _ _ | .unOp _ _ _ | .convert _ _ _ | .slice _ _ _ _ _ | .fieldAddr _ _ _ | .field _ _ _ | .indexAddr _ _ _ | .index _ _ _ | .lookup _ _ _ _ | .extract _ _ | .makeFunc (.func _) _ _ => true
  | .call c => match c.callee with
    | .builtin .len => true
    | .builtin .cap => true
    | _ => false
  | _ => false

theorem pure_valF {P : Program} {w w' : World} {ρ : Operand → Value} {o : Oper} {nx : Next} (hp : pureOpF o = true) (h : (execOp ρ o).run P w = .ok nx w') : ∃ u, nx = .value u := by
  suffices H : ValOnly (execOp ρ o) from H _ _ _ _ h
  clear h
  unfold pureOpF at hp
  unfold execOp
  cases ho : o.op <;> simp only [] <;> first
    | exact ValOnly.bind _ _ fun _ => ValOnly.pure _
    | exact ValOnly.pure _
    | (exfalso; rw [ho] at hp; simp at hp; done)
    | skip
  case nilCheck x =>
    split <;> first
      | exact val_panic
      | exact ValOnly.pure _
      | skip
    split <;> first
      | exact val_panic
      | exact ValOnly.pure _
      | skip
    refine ValOnly.bind _ _ fun _ => ValOnly.bind _ _ fun _ => ?_
    split
    · exact ValOnly.bind _ _ fun _ => ValOnly.pure _
    · exact ValOnly.pure _
  case call c =>
    rw [ho] at hp
    simp only at hp
    cases hc : c.callee <;> rw [hc] at hp <;> (try (simp at hp; done))
    rename_i b
    intro P w nx w' h
    cases b <;> (try (simp at hp; done)) <;> simp only [resolve, hc, Sem.run_bind, Sem.run_pure, Result.andThen_ok, invoke, builtin] at h <;> exact ValOnly.bind _ _ (fun _ => ValOnly.pure _) P w nx w' (by simpa only [Sem.run_bind, Sem.run_pure] using h)

section
variable {P : Program} {ops : Array Oper} {md : Region.Mode} {S : World → Prop} {Q : Exit → Act → World → Prop}

theorem yieldsIf_of_inF {o : Oper} {v : Value} {a : Act} (hp : pureOpF o = true) (h : YieldsIn P ops S o v a) : YieldsIf P ops S o v a := by
  rcases h with ⟨hw, h⟩ | h
  · refine .inl ⟨hw, fun w hS => ?_⟩
    have h1 := h w hS
    unfold Oper.quietAt at h1
    cases hr : (execOp a.eval o).run P w with
    | halt x w' => rw [hr] at h1; simp [Oper.quietUpon] at h1
    | ok nx w' =>
      rw [hr] at h1
      obtain ⟨u, rfl⟩ := pure_valF hp hr
      simp only [Oper.quietUpon] at h1
      obtain ⟨rfl, rfl⟩ := h1
      rfl
  · exact .inr h

def segBF (md : Region.Mode) (l : List Oper) (n : Nat) : List Nat → Array Bool → Option (Array Bool)
  | [], listed => some listed
  | i :: r, listed => if ((l[i]?).map pureOpF).getD false && decide (i < n) && (Region.ready md l.toArray listed).contains i && Region.free md l.toArray listed i then segBF md l n r (listed.setIfInBounds i true) else none
def mixBF (md : Region.Mode) (l : List Oper) (n : Nat) (last : List Nat) : List (List Nat × Nat) → Array Bool → Bool
  | [], listed => match segBF md l n last listed with
    | none => false
    | some l' => Region.seqB md l.toArray (l.length - n) n l'
  | (seg, i) :: r, listed => match segBF md l n seg listed with
    | none => false
    | some l' => decide (Region.ready md l.toArray l' = [i]) && decide (i < n) && mixBF md l n last r (l'.setIfInBounds i true)
def mixAllF (l : List Oper) (n : Nat) (plan : List (List Nat × Nat)) (last : List Nat) : Bool :=
  Region.noSelect l.toArray && (decide (n = l.length) || (decide (n < l.length) && Region.sinkB .any l.toArray n && Region.chainB .any l.toArray n)) && decide (cntM plan + last.length = n) && mixBF .any l n last plan (Array.replicate l.length false)

theorem seg_headMF {l : List Oper} {n : Nat} {L : Array Bool → Act → World → Prop} (hsel : Region.noSelect l.toArray = true) (hQ : ∀ c d v a w, Q (.panic c) (Act.put a d v) w → Q (.panic c) a w)
    (htw : ∀ listed, HeadInv md l.toArray n listed → ∀ i, i < n → listed.getD i true = false → ∀ t, n ≤ t → t ∉ Region.ready md l.toArray listed) (hdone : ∀ listed a w, L listed a w → ∀ j ∈ Region.ready md l.toArray listed, n ≤ j) :
    ∀ (seg : List Nat) (listed l' : Array Bool) (f : Nat) (K : Act → Prop) (a : Act) (w : World), HeadInv md l.toArray n listed → segBF md l n seg listed = some l' → S w → wpQuiet P l.toArray S K (pk l seg) a →
      (HeadInv md l.toArray n l' → ∀ a', K a' → headM P md l.toArray S Q n L f l' a' w) → headM P md l.toArray S Q n L (seg.length + f) listed a w
  | [], listed, l', f, K, a, w, inv, hB, hS, h, hK => by
    simp only [segBF, Option.some.injEq] at hB
    subst hB
    rw [List.length_nil, Nat.zero_add]
    exact hK inv a h
  | i :: seg, listed, l', f, K, a, w, inv, hB, hS, h, hK => by
    unfold segBF at hB
    split at hB
    · rename_i hc
      simp only [Bool.and_eq_true, decide_eq_true_eq] at hc
      obtain ⟨⟨⟨hp, hin⟩, hr⟩, hf⟩ := hc
      cases ho : l[i]? with
      | none => rw [ho] at hp; simp at hp
      | some o =>
        rw [ho] at hp
        have hp' : pureOpF o = true := by simpa using hp
        have ho' : l.toArray[i]? = some o := by simpa using ho
        have hr' : i ∈ Region.ready md l.toArray listed := by simpa using hr
        have hst : qOp P l.toArray S i (wpQuiet P l.toArray S K (pk l seg)) a := by
          unfold qOp
          simp only [ho']
          have e : pk l (i :: seg) = o :: pk l seg := by rw [pk_cons, pushAt_eq _ _ _ ho]
          rw [e] at h
          exact h
        obtain ⟨v, hy, hk⟩ := yieldsIn_of_qOp ho' hst
        rw [List.length_cons, show seg.length + 1 + f = (seg.length + f) + 1 by omega]
        exact headM_first ho' (Region.noSelect_spec hsel) (fun c a w h => hQ c _ _ a w h) htw hin hdone _ listed a w inv (Region.free_spec ho' hf) hr' (yieldsIf_of_inF hp' hy) hS
          (seg_headMF hsel hQ htw hdone seg _ l' f K _ w (inv.set hr' hin) hB hS hk hK)
    · cases hB

theorem mix_headMF {l : List Oper} {n : Nat} {last : List Nat} (hsel : Region.noSelect l.toArray = true) (hQ : ∀ c d v a w, Q (.panic c) (Act.put a d v) w → Q (.panic c) a w)
    (htw : ∀ listed, HeadInv md l.toArray n listed → ∀ i, i < n → listed.getD i true = false → ∀ t, n ≤ t → t ∉ Region.ready md l.toArray listed) :
    ∀ (plan : List (List Nat × Nat)) (listed : Array Bool) (a : Act) (w : World), HeadInv md l.toArray n listed → mixBF md l n last plan listed = true → S w →
      wpMix P l S Q (fun a w => wpQuiet P l.toArray S (fun a' => wpList P l.toArray Q (l.drop n) a' w) (pk l last) a) plan a w →
      headM P md l.toArray S Q n (fun listed a w => Region.seqB md l.toArray (l.length - n) n listed = true ∧ wpList P l.toArray Q (l.drop n) a w) (cntM plan + last.length) listed a w
  | [], listed, a, w, inv, hB, hS, h => by
    unfold mixBF at hB
    split at hB
    · cases hB
    · rename_i l' hl'
      have := seg_headMF (P := P) (S := S) (Q := Q) (L := fun listed a w => Region.seqB md l.toArray (l.length - n) n listed = true ∧ wpList P l.toArray Q (l.drop n) a w) hsel hQ htw (fun listed a w h => seqB_ready h.1) last listed l' 0 _ a w inv hl' hS h (fun _ a' h' => ⟨hB, h'⟩)
      simpa [cntM] using this
  | (seg, i) :: r, listed, a, w, inv, hB, hS, h => by
    unfold mixBF at hB
    split at hB
    · cases hB
    · rename_i l' hl'
      simp only [Bool.and_eq_true, decide_eq_true_eq] at hB
      obtain ⟨⟨hr, hin⟩, hB⟩ := hB
      have := seg_headMF (P := P) (S := S) (Q := Q) (L := fun listed a w => Region.seqB md l.toArray (l.length - n) n listed = true ∧ wpList P l.toArray Q (l.drop n) a w) hsel hQ htw (fun listed a w h => seqB_ready h.1) seg listed l' (1 + (cntM r + last.length)) _ a w inv hl' hS h (fun inv' a' h' => by
        rw [Nat.add_comm 1]
        refine ⟨by rw [hr]; simp, fun j hj => ?_⟩
        have hj0 := hj
        rw [hr] at hj
        have hji : j = i := by simpa using hj
        subst hji
        refine ⟨hin, ?_⟩
        obtain ⟨_, oj, hoj, _⟩ := mem_ready.1 hj0
        have e : pk l [j] = [oj] := by
          have : l[j]? = some oj := by simpa using hoj
          rw [pk_cons, pushAt_eq _ _ _ this]; rfl
        rw [e] at h'
        exact wpOp_mono (fun a'' w'' h3 => ⟨h3.1, mix_headMF hsel hQ htw r _ a'' w'' (inv'.set hj0 hin) hB h3.1 h3.2⟩) (wpOp_of_list hoj h'))
      simp only [cntM]
      rwa [show seg.length + 1 + cntM r + last.length = seg.length + (1 + (cntM r + last.length)) by omega]
end

/-- What is walked: the plan's pure operations and others, the last pure ones, the tail. S: what lay below N lies as it lay. -/
theorem wp_region_mixF {P : Program} {id : Nat} {Q : Exit → Act → World → Prop} {a : Act} {w : World} {l : List Oper} (N n : Nat) (plan : List (List Nat × Nat)) (last : List Nat) (hm : P.follows .mixedOrders = true) (hQ : ∀ c d v a w, Q (.panic c) (Act.put a d v) w → Q (.panic c) a w)
    (hB : mixAllF l n plan last = true)
    (h : wpMix P l (fun w' => ∃ x : UpW N w, w' = x.w) Q (fun a w1 => wpQuiet P l.toArray (fun w' => ∃ x : UpW N w, w' = x.w) (fun a' => wpList P l.toArray Q (l.drop n) a' w1) (pk l last) a) plan a w.drew) : (Code.region id l.toArray true).wp P Q a w := by
  simp only [mixAllF, Bool.and_eq_true, Bool.or_eq_true, decide_eq_true_eq] at hB
  obtain ⟨⟨⟨hsel, hn⟩, hcnt⟩, hmix⟩ := hB
  have hnl : n ≤ l.length := by rcases hn with h | h <;> omega
  have inv0 : HeadInv .any l.toArray n (Array.replicate l.length false) :=
    ⟨by simp, fun j oj _ hl => (by rw [getD_replicate_false] at hl; cases hl), fun t _ ht => getD_in (by simpa using ht) (getD_replicate_false _ _)⟩
  have htw : ∀ listed, HeadInv .any l.toArray n listed → ∀ i, i < n → listed.getD i true = false → ∀ t, n ≤ t → t ∉ Region.ready .any l.toArray listed := fun listed inv i hi hun t ht hr => by
    rcases hn with hn | ⟨⟨hn, hs⟩, hc⟩
    · obtain ⟨_, ot, hot, _⟩ := mem_ready.1 hr
      have := (Array.getElem?_eq_some_iff.1 hot).1
      simp at this
      omega
    · exact tail_waits hs hc (by simpa using hn) inv _ i rfl hi hun t ht hr
  have H := mix_headMF (md := .any) hsel hQ htw plan _ a w.drew inv0 hmix ⟨⟨w.drew, (Below.refl N w).drew⟩, rfl⟩ h
  refine wp_region_any hm ?_
  have key := any_of_headM (Q := Q) (g := l.length - n) (fun listed a' w' hL => by
    have := wpAny_of_seq (md := .any) (Q' := Q) (l.drop n) n listed a' w' (fun j => by simp [List.getElem?_drop]) (by rw [List.length_drop]; exact hL.1) hL.2
    rwa [List.length_drop] at this) _ _ _ _ H
  rw [hcnt, show n + (l.length - n) = l.toArray.size by simp; omega] at key
  simpa using key
end Go.Proofs.YtphdkcdkhklicaaGreatDoor
/- package buffer: Boundary and Undo at a plain buffer. -/
namespace Go.Proofs.YtphdkcdkhklicaaGreatDoor
open Go.RowKit Go.Lib
set_option linter.unusedVariables false
set_option linter.unusedSimpArgs false
theorem logShut_len (G : List (List Chg)) (O : List Chg) : (logShut G O).length ≤ G.length + 1 := by unfold logShut; split <;> simp
/-- Behind Boundary. -/
def shutT (T : Tx) : Tx := { T with S := { T.S with empty := true }, G := logShut T.G T.O, O := [] }
section
variable {N : Nat} {w w' : World} {b mm : Nat} {F F' Fg Fl : Nat → Prop} {pr ev : Int} {T T' : Tx} {co nw co' nw' : Int} {B B' : Nat}
theorem plog_bound (h : PB N w b F T B) (hB : B ≤ 900000) : Calls Tryz.prog 82 #[pAt T.S.l] w fun r w' => r = .returned (.int .i64 0) ∧ Only F w w' ∧ PB N w' b (grow F w.heap.size) { T with G := logShut T.G T.O, O := [] } (B + 1) := by
  have htk := h.tick
  obtain ⟨Fl, co, nw, hl, hF, hNl, e1, e2, e3, e4, e5, e6, e7, hback⟩ := h.log
  refine (lboundF hl (by omega) (by omega) e7).mono ?_
  rintro r w' ⟨rfl, hl', ho⟩
  have hll := logShut_len T.G T.O
  obtain ⟨o1, p1⟩ := hback w' _ _ [] _ _ 0 (B + 1) w'.heap.size ho ho.size (Nat.le_refl _) hl'.bound (fun k hk => hk) (by simp) (by omega) (by omega) (by omega) e5 (by omega) (fun _ => rfl) (by omega)
  exact ⟨rfl, o1, p1.mono (fun k hk => hk.1) (Nat.le_refl _)⟩
theorem PB.setEmpty (h : PB N w b F T B) (v : Bool) : Only F w (w.setCell ⟨b, 15, none⟩ (.bool v)) ∧ PB N (w.setCell ⟨b, 15, none⟩ (.bool v)) b F { T with S := { T.S with empty := v } } B := by
  have hs := h.sane
  exact h.turn ((Only.refl (fun k => k = b) w).setCell (p := ⟨b, 15, none⟩) rfl _) (h.blk.set (j := 15) (by simp) (.bool v)) ⟨rfl, rfl, rfl, rfl, rfl, rfl⟩ ⟨hs.l1, hs.lp, hs.ph, hs.hn, hs.ma⟩ h.tick h.logs
set_option maxHeartbeats 1000000 in
theorem bBoundary (h : PB N w b F T B) (hB : B ≤ 900000) : Calls Tryz.prog 35 #[pAt b] w fun r w' => r = .returned (.int .i64 0) ∧ Only F w w' ∧ PB N w' b (grow F w.heap.size) (shutT T) (B + 1) := by
  have c14 : w.cell? ⟨b, 14, none⟩ = some (.bool true) := by rw [← h.logs]; exact h.blk.cell (j := 14) rfl
  have c13 : w.cell? ⟨b, 13, none⟩ = some (pAt T.S.l) := h.blk.cell (j := 13) rfl
  have HN := Lib.hid (bnoneB h.blk)
  have HL := Lib.hid (plog_bound h hB)
  clear h hB
  generalize hl : T.S.l = l at *
  go_enter Tryz.func35, Tryz.ntmps35
  go_wp2_with fail
  refine HN.out.mono ?_
  rintro r w1 ⟨rfl, rfl⟩
  go_wp2_with fail
  refine HL.out.mono ?_
  rintro r w1 ⟨rfl, ho, hp⟩
  have q15 := hp.blk.cell (j := 15) rfl
  have f15 := hp.blk.fz 15
  have HP := Lib.hid hp
  have HO := Lib.hid ho
  clear hp ho
  go_wp2_with fail
  go_ret
  obtain ⟨o2, p2⟩ := HP.out.setEmpty true
  exact ⟨rfl, Only.grow HO.out o2, p2⟩
/-- What the log's Undo makes of a plain buffer. -/
def PUndo (N : Nat) (w : World) (b : Nat) (F : Nat → Prop) (T : Tx) (B : Nat) (c : Int) (r : Ending) (w' : World) : Prop :=
  Only F w w' ∧ ∃ n, w.heap.size ≤ n ∧ n ≤ w'.heap.size ∧
    ((c = 0 ∧ r = .returned (.tuple #[.slice none 0 0, .int .i64 13]) ∧ PB N w' b (fun k => grow F w.heap.size k ∧ k < n) { T with G := logShut T.G T.O, O := [], ch := 0 } (B + 1)) ∨
     ∃ (m : Nat) (g : List Chg) (v : Value), c = ((m + 1 : Nat) : Int) ∧ (logShut T.G T.O)[m]? = some g ∧ r = .returned (.tuple #[v, .int .i64 0]) ∧ PB N w' b (fun k => grow F w.heap.size k ∧ k < n) { T with G := logShut T.G T.O, O := [], ch := m } (B + 1) ∧ ROwn encCg 113 9 n w' v g.reverse)
theorem plog_undo (h : PB N w b F T B) (hB : B ≤ 900000) (hGG : ∀ g ∈ logShut T.G T.O, g.length ≤ 900002) (again : Bool) (hch : T.ch ≤ (logShut T.G T.O).length) :
    Calls Tryz.prog 80 #[pAt T.S.l, .bool again] w (PUndo N w b F T B (chainN again T.ch (logShut T.G T.O).length)) := by
  have htk := h.tick
  obtain ⟨Fl, co, nw, hl, hF, hNl, e1, e2, e3, e4, e5, e6, e7, hback⟩ := h.log
  have hll := logShut_len T.G T.O
  refine (lundo hl (by omega) (by omega) (by omega) e7 hGG again hch).mono ?_
  rintro r w' ⟨ho, n, hn1, hn2, ⟨hc, rfl, hl'⟩ | ⟨m, g, v, hc, hg, rfl, hl', hv⟩⟩
  · obtain ⟨o1, p1⟩ := hback w' _ _ [] _ _ 0 (B + 1) n ho hn1 hn2 hl' (fun k hk => hk) (by simp) (by omega) (by omega) (by omega) e5 (by omega) (fun _ => rfl) (by omega)
    exact ⟨o1, n, hn1, hn2, .inl ⟨hc, rfl, p1⟩⟩
  · obtain ⟨o1, p1⟩ := hback w' _ _ [] _ _ 0 (B + 1) n ho hn1 hn2 hl' (fun k hk => hk) (by simp) (by omega) (by omega) (by omega) e5 (by omega) (fun _ => rfl) (by omega)
    exact ⟨o1, n, hn1, hn2, .inr ⟨m, g, v, hc, hg, rfl, p1, hv⟩⟩
set_option maxHeartbeats 1000000 in
theorem open_ok {S : BS} (h : BufB w b S) (hro : S.ro = false) : Calls Tryz.prog 79 #[pAt b] w fun r w' => r = .returned (.int .i64 0) ∧ w = w' := by
  have c5 : w.cell? ⟨b, 5, none⟩ = some (.bool false) := by rw [← hro]; exact h.cell (j := 5) rfl
  clear h hro
  go_enter Tryz.func79, Tryz.ntmps79
  go_wp2_with fail
  go_ret
  exact ⟨rfl, rfl⟩
abbrev openC (b : Nat) : Chk := ⟨79, #[pAt b], #[], 0⟩
theorem ChkAt.open {S : BS} (h : BufB w b S) (hro : S.ro = false) : ChkAt w True (openC b) := ⟨enters_mk Tryz.func79 (by kernel_rfl) rfl, fun _ w1 hb => (open_ok (h.up hb) hro).mono fun _ _ ⟨h1, h2⟩ => ⟨h1, h2 ▸ Below.refl _ _⟩⟩
set_option maxHeartbeats 1000000 in
theorem undo1_ok {S : BS} {k0 : Nat} (h : BufB w b S) (hlg : S.logs = true) (h0 : w.cell? ⟨k0, 0, none⟩ = some (pAt b)) : Calls Tryz.prog 78 #[pAt k0] w fun r w' => r = .returned (.bool true) ∧ Below w.heap.size w w' := by
  have c14 : w.cell? ⟨b, 14, none⟩ = some (.bool true) := by rw [← hlg]; exact h.cell (j := 14) rfl
  clear h hlg
  go_enter Tryz.func78, Tryz.ntmps78
  go_wp2_with fail
  go_ret
  exact ⟨rfl, Below.refl _ _⟩
/-- The changes undone one by one. -/
def revsT (T : Tx) (L : List Chg) : Tx := L.foldl revT T
def revsC (L : List Chg) : Nat := (L.map revC).sum
/-- Each can be undone when its turn comes. -/
def RevsOk : Tx → List Chg → Prop
  | _, [] => True
  | T, c :: L => RevOk T c ∧ RevsOk (revT T c) L
theorem revsT_snoc (T : Tx) (L : List Chg) (c : Chg) : revsT T (L ++ [c]) = revT (revsT T L) c := by unfold revsT; rw [List.foldl_append]; rfl
theorem RevsOk.at_ : ∀ {T : Tx} {L : List Chg} {i : Nat} {c : Chg}, RevsOk T L → L[i]? = some c → RevOk (revsT T (L.take i)) c
  | T, [], i, c, _, h => by simp at h
  | T, d :: L, 0, c, hr, h => by simp at h; subst h; exact hr.1
  | T, d :: L, i + 1, c, hr, h => by
    have := RevsOk.at_ (T := revT T d) (L := L) (i := i) hr.2 (by simpa using h)
    rw [List.take_succ_cons]
    exact this
theorem revsC_snoc (L : List Chg) (c : Chg) : revsC (L ++ [c]) = revsC L + revC c := by unfold revsC; simp
theorem revsC_take : ∀ (L : List Chg) (i : Nat), revsC (L.take i) ≤ revsC L
  | [], i => by simp [revsC]
  | c :: L, 0 => by simp [revsC]
  | c :: L, i + 1 => by
    have := revsC_take L i
    simp only [revsC, List.take_succ_cons, List.map_cons, List.sum_cons] at *
    omega
theorem take_snoc {L : List Chg} {i : Nat} {c : Chg} (h : L[i]? = some c) : L.take (i + 1) = L.take i ++ [c] := by
  rw [List.take_add_one, h]; rfl
/-- What the buffer's Undo makes of a plain buffer. d: what the changes cost. -/
def BUndo (N : Nat) (w : World) (b : Nat) (F : Nat → Prop) (T : Tx) (B d : Nat) (c : Int) (r : Ending) (w' : World) : Prop :=
  Only F w w' ∧ ((c = 0 ∧ r = .returned (.int .i64 13) ∧ PB N w' b (grow F w.heap.size) { shutT T with ch := 0 } (B + 1)) ∨
    ∃ (m : Nat) (g : List Chg), c = ((m + 1 : Nat) : Int) ∧ (logShut T.G T.O)[m]? = some g ∧ r = .returned (.int .i64 0) ∧
      PB N w' b (grow F w.heap.size) (shutT (revsT { shutT T with ch := m } g.reverse)) (B + d + 2))
set_option maxRecDepth 100000 in
set_option maxHeartbeats 4000000 in
theorem bUndo (hT : Tabs N w) (hR : Rules N w) (h : PB N w b F T B) (hF : edF N F) {d : Nat} (hB : B + d ≤ 890000) (hGG : ∀ g ∈ logShut T.G T.O, g.length ≤ 900000) (again : Bool) (hch : T.ch ≤ (logShut T.G T.O).length) (hro : T.S.ro = false)
    (hrev : ∀ m g, chainN again T.ch (logShut T.G T.O).length = ((m + 1 : Nat) : Int) → (logShut T.G T.O)[m]? = some g → RevsOk { shutT T with ch := m } g.reverse ∧ revsC g.reverse ≤ d) :
    Calls Tryz.prog 30 #[pAt b, .bool again] w (BUndo N w b F T B d (chainN again T.ch (logShut T.G T.O).length)) := by
  have hb := below1 w (.cells #[pAt b] 24)
  have hk := Blk.made w 24 #[pAt b]
  have hz : (w.alloc (.cells #[pAt b] 24)).heap.size = w.heap.size + 1 := by simp
  have HB := Lib.hid hb
  have HK := Lib.hid hk
  have H := Lib.hid (h.bound.up hb)
  have HT := Lib.hid (hT.up hb)
  have HR := Lib.hid (hR.up hb)
  have HZ := Lib.hid hz
  have HH := Lib.hid (⟨hB, hGG, hch, hro, hF, hrev⟩ : _ ∧ _ ∧ _ ∧ _ ∧ _ ∧ _)
  obtain ⟨c, hc⟩ : ∃ c, c = chainN again T.ch (logShut T.G T.O).length := ⟨_, rfl⟩
  rw [← hc]
  have HC := Lib.hid hc
  clear hT hR h hb hk hz hB hGG hch hro hF hrev hc
  go_enter Tryz.func30, Tryz.ntmps30
  go_wp2_with fail
  generalize w.alloc (.cells #[pAt b] 24) = W at *
  have X0 : ∀ X : UpW W.heap.size W, X.w.cell? ⟨w.heap.size, 0, none⟩ = some (pAt b) := fun X => (HK.out.up X.up).cell (j := 0) rfl
  refine wp_region_mixF W.heap.size 9 [([0, 1, 2, 4, 5], 3), ([], 6), ([], 7)] [8] (by kernel_rfl) (fun c d v a w h => by cases d <;> exact h) (by kernel_rfl) ?_
  simp only [wpMix, pk_nil, pk_cons, pushAt_zero, pushAt_succ, List.drop_succ_cons, List.drop_zero]
  repeat (go_big_quiet_step (fail))
  refine wpQuiet_nil ?_
  clear X0
  go_wp2_with fail
  refine (unless_ok 9 78 #[] #[pAt w.heap.size] W.drew).mono ?_
  rintro r w1 ⟨rfl, hb1, he, hf⟩
  have hb1' : Below W.heap.size W w1 := ((Below.refl _ W).drew).trans hb1
  have C1 := Lib.hid (ChkAt.unless (P := True) (p := true) (enters_mk Tryz.func78 (by kernel_rfl) rfl) he hf (fun _ w2 hb2 => undo1_ok ((H.out.up hb1').up hb2).blk H.out.logs (((HK.out.up hb1').up hb2).cell (j := 0) rfl)))
  have M1 := Lib.hid (ChkAt.made (H.out.up hb1').blk)
  have O1 := Lib.hid (ChkAt.open (H.out.up hb1').blk HH.out.2.2.2.1)
  have B1 := Lib.hid hb1'
  clear hb1 he hf
  go_wp2_with fail
  refine thenQ_normal ⟨⟨⟨_, B1.out⟩, rfl⟩, ?_⟩
  refine wpQuiet_nil ?_
  go_wp2_with fail
  have hb2 := below1 w1 (.cells #[(madeC b).val, (unlC W.heap.size (W.heap.size + 1) 0).val, (openC b).val] 59)
  have B2 := Lib.hid (B1.out.trans (hb2.mono B1.out.size))
  refine thenQ_normal ⟨⟨⟨_, B2.out⟩, rfl⟩, ?_⟩
  refine wpQuiet_nil ?_
  have hR3 := RSl.arr (enc := encK) (zs := [madeC b, unlC W.heap.size (W.heap.size + 1) 0, openC b]) (MapKept.heap_alloc w1 (.cells #[(madeC b).val, (unlC W.heap.size (W.heap.size + 1) 0).val, (openC b).val] 59)).1 rfl
  have HF := first_any hR3 3 (by simp) (by
    intro c hc
    simp only [List.mem_cons, List.not_mem_nil, or_false] at hc
    rcases hc with rfl | rfl | rfl
    · exact M1.out.en
    · exact C1.out.en
    · exact O1.out.en) (by
    intro i c w4 hi hz hb
    rcases i with _ | _ | _ | i
    · cases hi; exact M1.out.run trivial w4 (up2 hb2 hb)
    · cases hi; exact C1.out.run trivial w4 (up2 hb2 hb)
    · cases hi; exact O1.out.run trivial w4 (up2 hb2 hb)
    · simp at hi)
  have HF := Lib.hid HF
  clear hR3 hb2 hb1'
  go_wp2_with fail
  refine HF.out.mono ?_
  rintro e w3 ⟨rfl, hb3⟩
  simp only [firstE, if_true]
  go_wp2_with fail
  have B3 := Lib.hid (B2.out.trans (hb3.mono B2.out.size))
  refine thenQ_normal ⟨⟨⟨_, B3.out⟩, rfl⟩, ?_⟩
  repeat (go_big_quiet_step (fail))
  refine wpQuiet_nil ?_
  clear hb3 HF M1 C1 O1 B1 B2
  have P3 := Lib.hid (H.out.up B3.out)
  have K3 := Lib.hid (HK.out.up B3.out)
  have T3 := Lib.hid (HT.out.up B3.out)
  have R3 := Lib.hid (HR.out.up B3.out)
  have q13 : w3.cell? ⟨b, 13, none⟩ = some (pAt T.S.l) := P3.out.blk.cell (j := 13) rfl
  have k0 := K3.out.cell (j := 0) rfl
  go_wp2_with fail
  have hN3 : N ≤ w3.heap.size := P3.out.nN
  have z3 := B3.out.size
  have hZ : w.heap.size + 1 ≤ W.heap.size := by have := HZ.out; omega
  refine (plog_undo P3.out (by have := HH.out.1; omega) (fun g hg => by have := HH.out.2.1 g hg; omega) again HH.out.2.2.1).mono ?_
  rintro r w4 ⟨ho4, n, hn1, hn2, ⟨hc, rfl, hp4⟩ | ⟨m, g, v, hc, hg, rfl, hp4, hv⟩⟩
  · have hk4 := K3.out.only ho4 (fun e => by have := e.2; omega)
    have q15 := hp4.blk.cell (j := 15) rfl
    have f15 := hp4.blk.fz 15
    have k4 := hk4.cell (j := 0) rfl
    have P4 := Lib.hid hp4
    have O4 := Lib.hid ho4
    have HCC := Lib.hid (HC.out.trans hc)
    clear hp4 ho4 hk4 k0 q13 hc
    go_wp2_with fail
    go_ret
    obtain ⟨o5, p5⟩ := P4.out.setEmpty true
    refine ⟨?_, .inl ⟨HCC.out, rfl, p5.mono (fun k hk => hk.1.elim (fun e => .inl e.1) (fun e => .inr (by omega))) (Nat.le_refl _)⟩⟩
    exact (((Only.of_below HB.out).trans (Only.of_below B3.out)).trans (O4.out.mono (fun k hk => hk.1))).then o5 (fun k hk hlt => hk.1.elim (fun e => e.1) (fun e => by omega))
  · obtain ⟨L, hL⟩ : ∃ L, L = g.reverse := ⟨_, rfl⟩
    rw [← hL] at hv
    have hgl := HH.out.2.1 g (List.mem_of_getElem? hg)
    have hLl : L.length ≤ 900000 := by rw [hL]; simpa using hgl
    obtain ⟨hrok, hrd⟩ := HH.out.2.2.2.2.2 m g hc hg
    rw [← hL] at hrok hrd
    have hvb : ∀ k, v.ownBlock = some k → n ≤ k ∧ k < w4.heap.size := fun k hk => ⟨hv.base hk, hv.lt hk⟩
    have hk4 := K3.out.only ho4 (fun e => by have := e.2; omega)
    have q15 := hp4.blk.cell (j := 15) rfl
    have f15 := hp4.blk.fz 15
    have k4 := hk4.cell (j := 0) rfl
    obtain ⟨A, cap, rfl, hcp, hcm, _⟩ := hv.shape eltCg
    obtain ⟨o5, p5⟩ := hp4.setEmpty true
    have P5 := Lib.hid p5
    have O5 := Lib.hid ((((Only.of_below HB.out).trans (Only.of_below B3.out)).trans (ho4.mono (fun k hk => hk.1)) : Only F w w4).then o5 (fun k hk hlt => hk.1.elim (fun e => e.1) (fun e => by omega)))
    have K5 := Lib.hid (hk4.only o5 (fun e => e.1.elim (fun q => by have := q.2; omega) (fun q => by omega)))
    have V5 := Lib.hid (hv.kept (fun k hk => o5.block k (hvb k hk).2 (fun e => by have := (hvb k hk).1; have := e.2; omega)))
    have T5 := Lib.hid ((T3.out.only ho4 (fun k hk => HH.out.2.2.2.2.1 k hk.1)).only o5 (fun k hk => hk.1.elim (fun e => HH.out.2.2.2.2.1 k e.1) (fun e => by omega)))
    have R5 := Lib.hid ((R3.out.only ho4 (fun k hk => HH.out.2.2.2.2.1 k hk.1)).only o5 (fun k hk => hk.1.elim (fun e => HH.out.2.2.2.2.1 k e.1) (fun e => by omega)))
    have z5 : (w4.setCell ⟨b, 15, none⟩ (.bool true)).heap.size ≤ w4.heap.size := by simp
    have z6 : w4.heap.size ≤ (w4.setCell ⟨b, 15, none⟩ (.bool true)).heap.size := by simp
    have HVB := Lib.hid hvb
    have HG := Lib.hid (⟨hc, hg, hL, hrok, hrd⟩ : _ ∧ _ ∧ _ ∧ _ ∧ _)
    have hlo := ho4.size
    clear hp4 ho4 hk4 k0 q13 hc hg hL hrok hrd hvb hv p5 o5 hgl T3 R3 K3 P3
    go_wp2_with fail
    clear q15 f15 k4
    generalize w4.setCell ⟨b, 15, none⟩ (.bool true) = W5 at *
    obtain ⟨T0, hT0⟩ : ∃ T0 : Tx, T0 = { shutT T with ch := m } := ⟨_, rfl⟩
    have P5 : Hid (PB N W5 b (fun k => grow (fun k => F k ∧ k < w.heap.size) w3.heap.size k ∧ k < n) T0 (B + 1)) := by rw [hT0]; exact P5
    obtain ⟨F5, hF5⟩ : ∃ F5 : Nat → Prop, F5 = (fun k => grow (fun k => F k ∧ k < w.heap.size) w3.heap.size k ∧ k < n) := ⟨_, rfl⟩
    rw [← hF5] at P5
    have hF5' : ∀ k, F5 k → (F k ∧ k < w.heap.size) ∨ (w3.heap.size ≤ k ∧ k < n) := fun k hk => by rw [hF5] at hk; exact hk.1.elim .inl (fun e => .inr ⟨e, hk.2⟩)
    have hF6 : edF N (grow F5 W5.heap.size) := fun k hk => hk.elim (fun e => (hF5' k e).elim (fun q => HH.out.2.2.2.2.1 k q.1) (fun q => by omega)) (fun q => by omega)
    have HT0 := Lib.hid hT0
    have HF6 := Lib.hid (⟨hF5', hF6⟩ : _ ∧ _)
    clear hT0 hF5 hF5' hF6
    go_loopw [38] (fun va wr => ∃ i : Nat, i ≤ L.length ∧ va = .int .i64 i ∧ Only (grow F5 W5.heap.size) W5 wr ∧ PB N wr b (grow F5 W5.heap.size) (revsT T0 (L.take i)) (B + 1 + revsC (L.take i))) (fun va _ => int2 va (.int .i64 L.length))
    case atStart => exact ⟨0, Nat.zero_le _, rfl, Only.refl _ _, by simpa [revsT, revsC] using P5.out.mono (fun k hk => .inl hk) (Nat.le_refl _)⟩
    case round =>
      obtain ⟨i, hi, rfl, hor, hpr⟩ := hrel
      have zr := hor.size
      have hkr := K5.out.only hor (fun e => e.elim (fun q => (HF6.out.1 _ q).elim (fun q => by omega) (fun q => by omega)) (fun q => by omega))
      have hTr := T5.out.only hor HF6.out.2
      have hRr := R5.out.only hor HF6.out.2
      have hvr := V5.out.kept (fun k hk => hor.block k (by have := (HVB.out k hk).2; omega) (fun e => e.elim (fun q => (HF6.out.1 _ q).elim (fun q => by have := (HVB.out k hk).1; omega) (fun q => by have := (HVB.out k hk).1; omega)) (fun q => by have := (HVB.out k hk).2; omega)))
      have hlw : w.heap.size < wr.heap.size := by omega
      have hne : ¬ wr.heap.size = w.heap.size := by omega
      have kr : wr.cell? ⟨w.heap.size, 0, none⟩ = some (pAt b) := hkr.cell (j := 0) rfl
      have PR := Lib.hid hpr
      have OR := Lib.hid hor
      by_cases hlt : i < L.length
      · have d1 : decide ((i : Int) < L.length) = true := decide_eq_true (by omega)
        have d2 : ((i : Int) < L.length) = True := eq_true (by omega)
        have s1 : IntKind.i64.wrap ((i : Int) + 1) = ((i + 1 : Nat) : Int) := by rw [IntWalk.i64_in _ (by omega)]; omega
        obtain ⟨c, hx⟩ : ∃ c, L[i]? = some c := ⟨_, List.getElem?_eq_getElem hlt⟩
        have hrv : RevsOk T0 L := by rw [HT0.out]; exact HG.out.2.2.2.1
        have hok := hrv.at_ hx
        have hcst : B + 1 + revsC (L.take i) + revC c ≤ 900000 := by
          have h1 := revsC_take L (i + 1)
          rw [take_snoc hx, revsC_snoc] at h1
          have := HH.out.1; have := HG.out.2.2.2.2
          omega
        obtain ⟨gb, cap', e, hnc, hcm', hBg, hgl, hfz, hcell⟩ := hvr.lies eltCg (by omega)
        cases e
        have hcx := fun j u => hcell i c j u hx
        have HX := Lib.hid hx
        obtain ⟨xk, xa, xb, xid, xnm, xtx, xvk, xvn, xhd⟩ := c
        have x0 := hcx 0 _ rfl
        have x1 := hcx 1 _ rfl
        have x2 := hcx 2 _ rfl
        have x3 := hcx 3 _ rfl
        have x4 := hcx 4 _ rfl
        have x5 := hcx 5 _ rfl
        have x6 := hcx 6 _ rfl
        have x7 := hcx 7 _ rfl
        have x8 := hcx 8 _ rfl
        rw [Nat.add_zero] at x0
        have hb6 := below1 wr (.cells (chgA ⟨xk, xa, xb, xid, xnm, xtx, xvk, xvn, xhd⟩) 113)
        have HRV := Lib.hid (prevert (hTr.up hb6) (hRr.up hb6) (PR.out.up hb6) HF6.out.2 hcst hok)
        have B6 := Lib.hid hb6
        clear hcell hcx hfz hx hb6 hok hrv hTr hRr hvr hkr hor hpr
        go_wp2_with fail
        refine HRV.out.mono ?_
        rintro r w7 ⟨rfl, ho7, hp7⟩
        have O7 := Lib.hid (OR.out.trans ((Only.of_below B6.out).trans ho7))
        have P7 := Lib.hid hp7
        have z6 := B6.out.size
        clear ho7 hp7 HRV
        go_wp2_with fail
        go_roundw
        case rel =>
          refine ⟨i + 1, by omega, by first | rfl | go_num, O7.out, ?_⟩
          rw [take_snoc HX.out, revsT_snoc, revsC_snoc]
          exact P7.out.mono (grow_two (by omega)) (by omega)
        case measure => simp [int2]; omega
      · have d1 : decide ((i : Int) < L.length) = false := decide_eq_false (by omega)
        have d2 : ((i : Int) < L.length) = False := eq_false (by omega)
        obtain rfl : i = L.length := by omega
        rw [List.take_length] at hpr PR
        have hd := HG.out.2.2.2.2
        have hBB := HH.out.1
        have HB2 := Lib.hid (plog_bound PR.out (by omega))
        have q13 : wr.cell? ⟨b, 13, none⟩ = some (pAt (revsT T0 L).S.l) := PR.out.blk.cell (j := 13) rfl
        clear hTr hRr hvr hkr hor hpr
        generalize (revsT T0 L).S.l = l2 at *
        go_wp2_with fail
        refine HB2.out.mono ?_
        rintro r w7 ⟨rfl, ho7, hp7⟩
        have hk7 := (K5.out.only OR.out (fun e => e.elim (fun q => (HF6.out.1 _ q).elim (fun q => by omega) (fun q => by omega)) (fun q => by omega))).only ho7 (fun e => e.elim (fun q => (HF6.out.1 _ q).elim (fun q => by omega) (fun q => by omega)) (fun q => by omega))
        have k7 := hk7.cell (j := 0) rfl
        have q15 := hp7.blk.cell (j := 15) rfl
        have f15 := hp7.blk.fz 15
        have P7 := Lib.hid hp7
        have O7 := Lib.hid (OR.out.trans ho7)
        clear ho7 hp7 hk7 q13 kr HB2
        go_wp2_with fail
        go_ret
        obtain ⟨o8, p8⟩ := P7.out.setEmpty true
        have hsub : ∀ k, grow (grow F5 W5.heap.size) wr.heap.size k → F k ∧ k < w.heap.size ∨ w3.heap.size ≤ k := fun k hk => hk.elim (fun e => e.elim (fun q => (HF6.out.1 k q).elim .inl (fun q => .inr q.1)) (fun q => .inr (by omega))) (fun q => .inr (by omega))
        refine ⟨?_, .inr ⟨m, g, HC.out.trans HG.out.1, HG.out.2.1, rfl, ?_⟩⟩
        · refine (O5.out.then O7.out (fun k hk hlt => ?_)).then o8 (fun k hk hlt => ?_)
          · exact (hsub k (.inl hk)).elim (fun e => e.1) (fun e => by omega)
          · exact (hsub k hk).elim (fun e => e.1) (fun e => by omega)
        · rw [← HG.out.2.2.1]
          have p9 := p8.mono (F' := grow F w.heap.size) (B' := B + d + 2) (fun k hk => (hsub k hk).elim (fun e => .inl e.1) (fun e => .inr (by omega))) (by omega)
          rw [HT0.out] at p9
          exact p9
end
end Go.Proofs.YtphdkcdkhklicaaGreatDoor
