/- Registers: copyistlaw25.call. -/
import Derived.Test.YtaofcnmajicpcaaGreatDoorKgR
namespace Go.Proofs.YtaofcnmajicpcaaGreatDoor
open Go.RowKit
set_option linter.unusedVariables false
set_option linter.unusedSimpArgs false
section
variable {w w' : World} {b bm N : Nat} {m : List (Int × Reg)}
def callE (mc : List (Int × Con)) (a : CallE) : Int := if pickI a.kind 6 < 3 then setE a.c a.x.con else if pickI a.kind 6 = 3 then dropE mc a.c else addR mc a.c a.n
def callM (mc : List (Int × Con)) (a : CallE) : List (Int × Con) := if pickI a.kind 6 < 3 then setM mc a.c a.x.con else if pickI a.kind 6 = 3 then delM mc a.c else addM mc a.c a.n
theorem RgPost.pre {w1 : World} {er : Int} {mc : List (Int × Con)} {e : Ending} (hb : Below w.heap.size w w1) (h : RgPost w1 b bm m er mc e w') : RgPost w b bm m er mc e w' := by
  obtain ⟨m', he, h1, h2, h3, h4⟩ := h
  exact ⟨m', he, h1, h2, (Only.of_below hb).trans h3, fun g hg => (h4 g hg).imp id (Nat.le_trans hb.size)⟩
/-- A call of registers as it may be made. -/
structure CallOk (w : World) (a : CallE) : Prop where
  rs : RSl encS w a.x.A a.x.rows
  lc : a.x.rows.length ≤ a.x.c
  mc : a.x.c ≤ maxLen
  l : a.x.rows.length ≤ 6
  s : ∀ s ∈ a.x.rows, s.size ≤ 40
  t : a.x.text.size ≤ 40
  n0 : -9223372036854775808 ≤ a.n
  n1 : a.n ≤ 9223372036854775807
theorem CallOk.up {a : CallE} (h : CallOk w a) (hb : Below w.heap.size w w') : CallOk w' a := ⟨h.rs.up hb, h.lc, h.mc, h.l, h.s, h.t, h.n0, h.n1⟩
set_option maxRecDepth 100000 in
set_option maxHeartbeats 2000000 in
theorem call_any (h : RegsAt w b bm m) (a : CallE) (ha : CallOk w a) (hT : Tabs N w) (hN : N ≤ w.heap.size) :
    Calls Tryz.prog 12 #[.pointer (some ⟨b, 0, none⟩), .agg #[.int .i64 a.kind, .int .i64 a.c, .int .i64 a.n, .int .i64 a.x.kind, .int .i64 a.x.n, .int .i64 a.x.id, .string a.x.text, .slice a.x.A a.x.rows.length a.x.c]] w (RgPost w b bm m (callE (conM m) a) (callM (conM m) a)) := by
  obtain ⟨kind, c, n, ⟨xk, xn, xi, xt, xA, xc, xr⟩⟩ := a
  have hp := pick_pos kind 6 (by omega)
  have HPK := Lib.hid (fun w1 => pick_any kind 6 w1 (by omega) (by omega))
  have hrs : RSl encS w xA xr := ha.rs
  have hxl : xr.length ≤ 6 := ha.l
  have hn0 : -9223372036854775808 ≤ n := ha.n0
  have hn1 : n ≤ 9223372036854775807 := ha.n1
  unfold callE callM
  dsimp only
  generalize pickI kind 6 = p at *
  have hwb := below1 w (.cells #[.int .i64 kind, .int .i64 c, .int .i64 n, .int .i64 xk, .int .i64 xn, .int .i64 xi, .string xt, .slice xA xr.length xc] 30)
  by_cases h3 : p < 3
  · rw [if_pos h3, if_pos h3]
    have HO := Lib.hid (fun (w1 : World) (hb : Below w.heap.size w w1) => own_any (hrs.up hb) xc (by omega))
    have HS := Lib.hid (fun (w1 : World) (hb : Below w.heap.size w w1) (y : Reg) (hy : y.con = Reg.con ⟨xk, xn, xi, xt, xA, xc, xr⟩) (hi : RSl encS w1 y.A y.rows) =>
      kset_any (N := N) (h.up hb) c y hi (by have : y.rows = xr := congrArg Con.rows hy; rw [this]; omega) (by have : y.rows = xr := congrArg Con.rows hy; rw [this]; exact fun s hs => Nat.le_trans (ha.s s hs) (by omega)) (by have : y.text = xt := congrArg Con.text hy; rw [this]; exact Nat.le_trans ha.t (by omega)) (hT.up hb) (Nat.le_trans hN hb.size))
    clear h ha hT hrs hwb
    obtain rfl | rfl | rfl : p = 0 ∨ p = 1 ∨ p = 2 := by omega
    all_goals
      go_enter Tryz.func12, Tryz.ntmps12
      go_wp2_with fail
      refine (HPK.out _).mono ?_
      rintro e w' ⟨rfl, rfl⟩
      go_wp2_with fail
      refine (HO.out _ (up2 (below1 _ _) (below1 _ _))).mono ?_
      rintro e w1 ⟨v, rfl, hown, hb⟩
      obtain ⟨A', c', rfl, hlc, hcm, hr⟩ := hown.shape eltS
      have hz := hb.size
      simp at hz
      have k0 := hb.cell (p := ⟨w.heap.size + 1, 0, none⟩) (by simp)
      have k1 := hb.cell (p := ⟨w.heap.size + 1, 1, none⟩) (by simp)
      have k2 := hb.cell (p := ⟨w.heap.size + 1, 2, none⟩) (by simp)
      have k3 := hb.cell (p := ⟨w.heap.size + 1, 3, none⟩) (by simp)
      have k4 := hb.cell (p := ⟨w.heap.size + 1, 4, none⟩) (by simp)
      have kf := fun o => hb.frozen (p := ⟨w.heap.size + 1, o, none⟩) (by simp)
      have q1 := hb.cell (p := ⟨w.heap.size, 1, none⟩) (by simp; omega)
      simp at k0 k1 k2 k3 k4 kf q1
      have HB := Lib.hid (set_below (up2 (up2 (below1 _ _) (below1 _ _)) hb) (w.heap.size + 1) 4 (.slice A' xr.length c') (by omega))
      have HR := Lib.hid (hr.set (w.heap.size + 1) 4 (.slice A' xr.length c') (fun hp g o e => by have h1 := hown.base (g := g) (by rw [e]; rfl); simp at h1; omega))
      clear hown hr hb
      go_wp2_with fail
      refine (HS.out _ HB.out ⟨xk, xn, xi, xt, A', c', xr⟩ rfl HR.out).mono ?_
      rintro e w2 hpost
      obtain ⟨m', rfl, r1, r2, r3, r4⟩ := RgPost.pre HB.out hpost
      have HF := Lib.hid (⟨r1, r2, r3, r4⟩ : RegsAt w2 b bm m' ∧ conM m' = _ ∧ _ ∧ _)
      clear r1 r2 r3 r4 hpost
      go_wp2_with fail
      go_ret
      exact ⟨m', rfl, HF.out.1, HF.out.2.1, HF.out.2.2.1, HF.out.2.2.2⟩
  · rw [if_neg h3, if_neg h3]
    by_cases h4 : p = 3
    · subst h4
      rw [if_pos rfl, if_pos rfl]
      have HD := Lib.hid (kdrop_any (h.up hwb) c)
      clear h ha hT hrs hwb
      go_enter Tryz.func12, Tryz.ntmps12
      go_wp2_with fail
      refine (HPK.out _).mono ?_
      rintro e w' ⟨rfl, rfl⟩
      go_wp2_with fail
      refine HD.out.mono ?_
      rintro e w2 hpost
      obtain ⟨m', rfl, r1, r2, r3, r4⟩ := RgPost.pre (below1 _ _) hpost
      have HF := Lib.hid (⟨r1, r2, r3, r4⟩ : RegsAt w2 b bm m' ∧ conM m' = _ ∧ _ ∧ _)
      clear r1 r2 r3 r4 hpost
      go_wp2_with fail
      go_ret
      exact ⟨m', rfl, HF.out.1, HF.out.2.1, HF.out.2.2.1, HF.out.2.2.2⟩
    · rw [if_neg h4, if_neg h4]
      have HD := Lib.hid (kadd_any (h.up hwb) c n hn0 hn1)
      clear h ha hT hrs hwb
      obtain rfl | rfl : p = 4 ∨ p = 5 := by omega
      all_goals
        go_enter Tryz.func12, Tryz.ntmps12
        go_wp2_with fail
        refine (HPK.out _).mono ?_
        rintro e w' ⟨rfl, rfl⟩
        go_wp2_with fail
        refine HD.out.mono ?_
        rintro e w2 hpost
        obtain ⟨m', rfl, r1, r2, r3, r4⟩ := RgPost.pre (below1 _ _) hpost
        have HF := Lib.hid (⟨r1, r2, r3, r4⟩ : RegsAt w2 b bm m' ∧ conM m' = _ ∧ _ ∧ _)
        clear r1 r2 r3 r4 hpost
        go_wp2_with fail
        go_ret
        exact ⟨m', rfl, HF.out.1, HF.out.2.1, HF.out.2.2.1, HF.out.2.2.2⟩
end
end Go.Proofs.YtaofcnmajicpcaaGreatDoor
