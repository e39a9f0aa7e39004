/- Overlays: Add. -/
import Derived.Test.YthjkdeocdhdkaaaGreatOvD
namespace Go.Proofs.YthjkdeocdhdkaaaGreat
open Go.RowKit
set_option linter.unusedVariables false
set_option linter.unusedSimpArgs false
section
variable {w w' : World} {x : OverE} {L : List OverE} {b : Nat} {pr ev nx : Int} {v : Value} {A : Option Addr}
def newO (nx f t : Int) (fr re : Bool) (g : Nat) : OverE := ⟨nx, f, t, fr, re, none, 0, [], g⟩
def newD (nx f t : Int) (fr re : Bool) : OverD := ⟨nx, f, t, fr, re, []⟩
/-- The set with one more overlay. -/
theorem OvsAt.add {v' : Value} {f t : Int} {fr re : Bool} (h : OvsAt w b pr ev v L nx) (hblk : w'.heap[w.heap.size]? = some (.cells (encO (newO nx f t fr re w.heap.size)).toArray 69 (0, 0))) (hown : ROwn encT 72 1 0 w' v' (L ++ [newO nx f t fr re w.heap.size]))
    (ho : Only (fun g => v.ownBlock = some g) w w') (hv : ∀ k, v'.ownBlock = some k → v.ownBlock = some k ∨ w.heap.size < k) :
    OvsAt ((w'.setCell ⟨b, 2, none⟩ v').setCell ⟨b, 3, none⟩ (.int .i64 (nx + 1))) b pr ev v' (L ++ [newO nx f t fr re w.heap.size]) (nx + 1) := by
  have hlt := h.blt
  have hb0 : w'.heap[b]? = some (.cells #[.int .i64 pr, .int .i64 ev, v, .int .i64 nx, .bool true] 63 (0, 0)) := (ho.block b hlt h.vb).trans h.blk
  have h1 := heap_setCell_same w' b 2 _ _ v' hb0
  have h2 := heap_setCell_same _ b 3 _ _ (.int .i64 (nx + 1)) h1
  have hk : ∀ j, j ≠ b → ((w'.setCell ⟨b, 2, none⟩ v').setCell ⟨b, 3, none⟩ (.int .i64 (nx + 1))).heap[j]? = w'.heap[j]? := fun j hj => by
    rw [Below.heap_setCell _ _ _ _ hj, Below.heap_setCell _ _ _ _ hj]
  have hvb : v'.ownBlock ≠ some b := fun e => by
    rcases hv b e with h3 | h3
    · exact h.vb h3
    · omega
  have hnf : (newO nx f t fr re w.heap.size).foot = [w.heap.size] := by simp [OverE.foot, newO, OverE.pv, ownB, Value.ownBlock]
  refine ⟨h2, hown.kept fun g hg => hk g (fun e => hvb (by rw [← e]; exact hg)), fun x hx => ?_, fun x hx => ?_, ?_, fun x hx => ?_, hvb⟩
  · rcases List.mem_append.1 hx with hx | hx
    · exact (h.ins x hx).kept fun k hk' => (hk k (fun e => (h.nb x hx).1 (e ▸ hk'))).trans (ho.block k ((h.ins x hx).lt hk') (fun e => (h.nb x hx).2 k e hk'))
    · obtain rfl : x = newO nx f t fr re w.heap.size := by simpa using hx
      refine ⟨(hk _ (by show w.heap.size ≠ b; omega)).trans hblk, ?_⟩
      exact ROwn.nil _ _
  · rcases List.mem_append.1 hx with hx | hx
    · exact h.fx x hx
    · obtain rfl : x = newO nx f t fr re w.heap.size := by simpa using hx
      intro k e; cases e
  · refine List.pairwise_append.2 ⟨h.pw, List.pairwise_singleton _ _, fun x hx y hy k hkx hky => ?_⟩
    obtain rfl : y = newO nx f t fr re w.heap.size := by simpa using hy
    rw [hnf] at hky
    have := (h.ins x hx).lt hkx
    simp at hky; omega
  · rcases List.mem_append.1 hx with hx | hx
    · refine ⟨(h.nb x hx).1, fun k e => ?_⟩
      rcases hv k e with h3 | h3
      · exact (h.nb x hx).2 k h3
      · intro hkx; have := (h.ins x hx).lt hkx; omega
    · obtain rfl : x = newO nx f t fr re w.heap.size := by simpa using hx
      rw [hnf]
      refine ⟨by simp; omega, fun k e hkx => ?_⟩
      simp at hkx; subst hkx
      rcases hv _ e with h3 | h3
      · have := h.own.lt h3; omega
      · omega
theorem foot_add {v' : Value} {f t nx : Int} {fr re : Bool} (hv : ∀ k, v'.ownBlock = some k → v.ownBlock = some k ∨ w.heap.size < k) : ∀ k ∈ footS b v' (L ++ [newO nx f t fr re w.heap.size]), k ∈ footS b v L ∨ w.heap.size ≤ k := by
  intro k hk
  rcases foot_cases hk with rfl | h1 | ⟨x, hx, h1⟩
  · exact .inl foot_b
  · rcases hv k h1 with h2 | h2
    · exact .inl (foot_v h2)
    · exact .inr (by omega)
  · rcases List.mem_append.1 hx with hx | hx
    · exact .inl (foot_x hx h1)
    · obtain rfl : x = newO nx f t fr re w.heap.size := by simpa using hx
      have hnf : (newO nx f t fr re w.heap.size).foot = [w.heap.size] := by simp [OverE.foot, newO, OverE.pv, ownB, Value.ownBlock]
      rw [hnf] at h1
      simp at h1; exact .inr (by omega)
set_option maxRecDepth 100000 in
set_option maxHeartbeats 1000000 in
theorem oadd_ok (h : OvsAt w b pr ev v L nx) (f t : Int) (fr re : Bool) (hr : rightI f t = true) (hl : L.length < 1024) (hn0 : 0 ≤ nx) (hn1 : nx ≤ 1000000000) :
    Calls Tryz.prog 27 #[.pointer (some ⟨b, 0, none⟩), .int .i64 f, .int .i64 t, .bool fr, .bool re] w (OPost w b pr ev v L (.tuple #[.int .i64 nx, .int .i64 0]) (L.map OverE.dat ++ [newD nx f t fr re]) (nx + 1)) := by
  obtain ⟨A, cp, rfl, hA1, hA2, hAs⟩ := h.own.shape eltT
  have HV := Lib.hid (ovalid h)
  have HR := Lib.hid (hr ▸ right_any f t w)
  have hlt := h.blt
  have hl' : (L.length : Int) < (1024 : Int) := by omega
  have hb1 : Below w.heap.size w (w.alloc (.cells (encO (newO nx f t fr re w.heap.size)).toArray 69)).drew := (below1 w _).drew
  obtain ⟨v', w', happ, hown', hbel', ho', hv'⟩ := append_elem eltT (h.own.up hb1) (Nat.zero_le _) (newO nx f t fr re w.heap.size) (by omega) (by omega)
  have hz : (w.alloc (.cells (encO (newO nx f t fr re w.heap.size)).toArray 69)).drew.heap.size = w.heap.size + 1 := by simp
  have hvn : ∀ k, v'.ownBlock = some k → (Value.slice A L.length cp).ownBlock = some k ∨ w.heap.size < k := fun k e => by
    rcases hv' with h3 | ⟨g, h3, h4⟩
    · exact .inl (h3 ▸ e)
    · rw [h3] at e; cases e; right; rw [hz] at h4; omega
  have hblk : w'.heap[w.heap.size]? = some (.cells (encO (newO nx f t fr re w.heap.size)).toArray 69 (0, 0)) := (ho'.block w.heap.size (by rw [hz]; omega) (fun e => by have := h.own.lt e; omega)).trans (MapKept.heap_alloc w _).1
  have hoo : Only (fun g => (Value.slice A L.length cp).ownBlock = some g) w w' := (Only.of_below hb1).trans ho'
  have hst := h.add (f := f) (t := t) (fr := fr) (re := re) hblk hown' hoo hvn
  have hft := foot_add (b := b) (L := L) (nx := nx) (f := f) (t := t) (fr := fr) (re := re) hvn
  have hbw : Below 0 w w' := hoo.below (Nat.zero_le _) (fun k _ => Nat.zero_le _)
  have hcb : w'.heap[b]? = w.heap[b]? := hoo.block b hlt h.vb
  have d2 := (World.cell?_of_block (w := w) (a := ⟨b, 2, none⟩) hcb).trans (h.cell 2 _ rfl)
  have d3 := (World.cell?_of_block (w := w) (a := ⟨b, 3, none⟩) hcb).trans (h.cell 3 _ rfl)
  have z2 := (World.frozen?_of_block (w := w) (a := ⟨b, 2, none⟩) hcb).trans (h.fz 2)
  have z3 := (World.frozen?_of_block (w := w) (a := ⟨b, 3, none⟩) hcb).trans (h.fz 3)
  obtain ⟨A2, c2, hv2, _, _, _⟩ := hown'.shape eltT
  generalize (L ++ [newO nx f t fr re w.heap.size]).length = L2 at hv2
  subst hv2
  have e2 := h.cell 2 _ rfl
  have hvb := h.vb
  have C2 : ∀ x : OnW (fun g => (Value.slice A L.length cp).ownBlock = some g) w, x.w.cell? ⟨b, 2, none⟩ = some (.slice A L.length cp) := fun x => (World.cell?_of_block (w := w) (a := ⟨b, 2, none⟩) (x.on.block b hlt hvb)).trans (h.cell 2 _ rfl)
  have C3 : ∀ x : OnW (fun g => (Value.slice A L.length cp).ownBlock = some g) w, x.w.cell? ⟨b, 3, none⟩ = some (.int .i64 nx) := fun x => (World.cell?_of_block (w := w) (a := ⟨b, 3, none⟩) (x.on.block b hlt hvb)).trans (h.cell 3 _ rfl)
  have happ' : ∀ ty, (Builtin.append_ #[61, 61] ty #[.slice A L.length cp, .slice (some ⟨w.heap.size + 1, 0, none⟩) 1 1]).run Tryz.prog ((w.alloc (.cells #[.int .i64 nx, .int .i64 f, .int .i64 t, .bool fr, .bool re, .slice none 0 0] 69)).alloc (.cells #[.pointer (some ⟨w.heap.size, 0, none⟩)] 72)).drew = .ok (.slice A2 L2 c2) w' := by
    rw [hz] at happ; exact happ
  have HP := Lib.hid happ'
  have HS := Lib.hid hst
  have HF := Lib.hid hft
  have HO := Lib.hid hoo
  have HB0 := Lib.hid hbw
  clear happ happ' hst hft hoo hown' hbel' ho' hv' hvn hblk hAs h hz hcb hb1 hbw hr
  go_enter Tryz.func27, Tryz.ntmps27
  go_wp2_with fail
  refine HV.out.mono ?_
  rintro e w0 ⟨rfl, rfl⟩
  go_wp2_with fail
  refine HR.out.mono ?_
  rintro e w0 ⟨rfl, rfl⟩
  go_wp2_with fail
  clear e2
  refine wp_region_mixO (fun g => (Value.slice A L.length cp).ownBlock = some g) 17 (.one [0, 1, 2, 3, 4, 5, 6, 7, 8, 9, 10, 11, 12, 13] 14 (.one [] 15 (.one [] 16 (.done [])))) (by kernel_rfl) (fun c d v a w h => by cases d <;> exact h) (by kernel_rfl) ?_
  simp only [wpMixT, pk_nil, pk_cons, pushAt_zero, pushAt_succ, List.drop_succ_cons, List.drop_zero]
  repeat (go_big_quiet_step (fail))
  refine wpQuiet_nil ?_
  clear C2 C3 hvb
  go_wp2_with fail
  refine thenQ_normal ⟨⟨⟨_, (Only.refl _ w).drew.alloc _⟩, rfl⟩, ?_⟩
  refine wpQuiet_nil ?_
  go_wp2_with fail
  refine thenQ_normal ⟨⟨⟨_, ((Only.refl _ w).alloc _).drew.alloc _⟩, rfl⟩, ?_⟩
  refine wpQuiet_nil ?_
  go_wp2_with (at_builtin; refine wpList_app_run rfl _ _ _ rfl rfl rfl HP.out ?_)
  refine thenQ_normal ⟨⟨⟨_, HO.out⟩, rfl⟩, ?_⟩
  refine wpQuiet_nil ?_
  go_wp2_with fail
  go_ret2
  exact ⟨_, _, ret_two (by omega), HS.out, by rw [List.map_append]; rfl, ((HO.out.mono fun k hk => foot_v hk).setCell (p := ⟨b, 2, none⟩) foot_b _).setCell (p := ⟨b, 3, none⟩) foot_b _, HF.out⟩
end
end Go.Proofs.YthjkdeocdhdkaaaGreat
