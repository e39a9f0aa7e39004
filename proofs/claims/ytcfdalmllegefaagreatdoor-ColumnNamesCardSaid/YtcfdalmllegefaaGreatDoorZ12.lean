import Derived.Test.YtcfdalmllegefaaGreatDoorZ11
import Derived.Test.YtcfdalmllegefaaGreatDoorLayG
import Derived.Test.YtcfdalmllegefaaGreatDoorZ07
import Derived.Test.YtcfdalmllegefaaGreatDoorZ03
import Derived.Test.YtcfdalmllegefaaGreatDoorZ01
import Derived.Test.YtcfdalmllegefaaGreatDoorZ04
/- slices.Insert and slices.BinarySearch at ints, at rows that lie in blocks of their own. -/
namespace Go.Proofs.YtcfdalmllegefaaGreatDoor
open Go.RowKit Go.Lib
set_option linter.unusedVariables false
set_option linter.unusedSimpArgs false
section
variable {w w' : World}
abbrev encZ (z : Int) : Value := .int .i64 z
theorem cellsZ (xs : List Int) : cellsL encI xs = xs.map encZ := by
  induction xs with
  | nil => rfl
  | cons x xs ih => rw [cellsL_cons, ih]; rfl
/-- A row of ints, opened. -/
theorem own_open {D : Nat} {v : Value} {xs : List Int} (h : ROwn encI 3 1 D w v xs) :
    (v = .slice none 0 0 ∧ xs = []) ∨ ∃ g cap cl, v = .slice (some ⟨g, 0, none⟩) xs.length cap ∧ D ≤ g ∧ w.heap[g]? = some (.cells (List.toArray cl) 3 (0, 0)) ∧ xs.length ≤ cap ∧ cap ≤ maxLen ∧ cl.length = cap ∧ cl.take xs.length = xs.map encZ := by
  obtain ⟨_, h⟩ := h
  rcases h with ⟨rfl, h0⟩ | ⟨g, cap, cur, rfl, hB, hb, hl, hm, hs, ht⟩
  · exact .inl ⟨rfl, List.eq_nil_of_length_eq_zero h0⟩
  · rw [cellsZ, Nat.mul_one] at ht
    exact .inr ⟨g, cap, cur.toList, rfl, hB, by simpa using hb, hl, hm, by simpa using hs, ht⟩
theorem own_mk {D g cap : Nat} {cl : List Value} {xs : List Int} (hB : D ≤ g) (hb : w.heap[g]? = some (.cells (List.toArray cl) 3 (0, 0))) (hl : xs.length ≤ cap) (hm : cap ≤ maxLen) (hs : cl.length = cap) (ht : cl.take xs.length = xs.map encZ) :
    ROwn encI 3 1 D w (.slice (some ⟨g, 0, none⟩) xs.length cap) xs :=
  ⟨by rw [cellsZ]; simp, .inr ⟨g, cap, _, rfl, hB, hb, hl, hm, by simpa using hs, by rw [cellsZ, Nat.mul_one]; exact ht⟩⟩
theorem cell_list {g : Nat} {E : TypeId} {cl : List Value} (hb : w.heap[g]? = some (.cells cl.toArray E (0, 0))) (j : Nat) : w.cell? ⟨g, j, none⟩ = cl[j]? := by simp [World.cell?, hb]
theorem froz_list {g : Nat} {E : TypeId} {cl : List Value} (hb : w.heap[g]? = some (.cells cl.toArray E (0, 0))) (j : Nat) : w.frozen? ⟨g, j, none⟩ = false := by simp [World.frozen?, hb]
theorem shape_list {g : Nat} {E : TypeId} {cl : List Value} (hb : w.heap[g]? = some (.cells cl.toArray E (0, 0))) : w.shape? g = some (E, cl.length) := by simp [World.shape?, hb]
theorem int_one (xs : List Int) : ∀ v ∈ xs.map encZ, v.oneCell' = true := fun v hv => by obtain ⟨z, _, rfl⟩ := List.mem_map.1 hv; rfl
theorem take_of_take {cl : List Value} {n i : Nat} {vs : List Value} (h : cl.take n = vs) (hi : i ≤ n) : cl.take i = vs.take i := by rw [← h, List.take_take, Nat.min_eq_left hi]
theorem get_of_take {cl : List Value} {n : Nat} {vs : List Value} (h : cl.take n = vs) {j : Nat} {v : Value} (hj : vs[j]? = some v) : cl[j]? = some v := by
  rw [← h, List.getElem?_take] at hj
  split at hj
  · exact hj
  · cases hj
set_option maxHeartbeats 1000000 in
theorem sinsert_none (v : Value) (A A' : Option Addr) (n c i c' : Nat) (hi : i ≤ n) (hn : n ≤ 1000000000) (hv : v = .slice A n c) :
    Calls Tryz.prog 254 #[v, .int .i64 i, .slice A' 0 c'] w fun e w' => e = .returned v ∧ w = w' := by
  subst hv
  go_enter Tryz.func254, Tryz.ntmps254
  go_wp2_with fail
  all_goals
    go_ret
    exact ⟨rfl, rfl⟩
/-- Handed back by Insert. -/
def InsP (w : World) (D : Nat) (v : Value) (zs : List Int) (e : Ending) (w' : World) : Prop :=
  ∃ v', e = .returned v' ∧ ROwn encI 3 1 D w' v' zs ∧ Only (fun k => v.ownBlock = some k) w w' ∧ ∀ k, v'.ownBlock = some k → v.ownBlock = some k ∨ w.heap.size ≤ k
theorem zeroC (n : Nat) : (Builtin.zeroCells (Value.int .i64 0).cells n).toList = List.replicate n (encZ 0) := by
  apply List.ext_getElem
  · simp [Builtin.zeroCells, Value.cells]
  · intro j h1 h2
    simp [Builtin.zeroCells, Value.cells, Nat.mod_one]
theorem get_len {l : List Value} {n : Nat} (hl : l.length = n) {j : Nat} (hj : j < n) : (l[j]?).isSome = true := by rw [List.getElem?_eq_getElem (by omega)]; rfl
set_option maxHeartbeats 1000000 in
theorem sinsert_own {D D' i : Nat} {v u : Value} {xs ys : List Int} (hv : ROwn encI 3 1 D w v xs) (hu : ROwn encI 3 1 D' w u ys) (hne : ∀ g, v.ownBlock = some g → u.ownBlock ≠ some g) (hi : i ≤ xs.length) (hl : xs.length + ys.length ≤ 1000000) (hD : D ≤ w.heap.size) :
    Calls Tryz.prog 254 #[v, .int .i64 i, u] w (InsP w D v (xs.take i ++ ys ++ xs.drop i)) := by
  rcases Nat.eq_zero_or_pos ys.length with h0 | h0
  · obtain rfl := List.eq_nil_of_length_eq_zero h0
    have hx : xs.take i ++ [] ++ xs.drop i = xs := by simp
    rw [hx]
    have : ∃ A' c', u = .slice A' 0 c' := by
      rcases own_open hu with ⟨rfl, _⟩ | ⟨vb, vc, ul, rfl, _⟩
      · exact ⟨_, _, rfl⟩
      · exact ⟨_, _, rfl⟩
    obtain ⟨A', c', rfl⟩ := this
    have hvs : ∃ A c, v = .slice A xs.length c := by
      rcases own_open hv with ⟨rfl, rfl⟩ | ⟨vb, vc, ul, rfl, _⟩
      · exact ⟨_, _, rfl⟩
      · exact ⟨_, _, rfl⟩
    obtain ⟨A, c, hv2⟩ := hvs
    exact (sinsert_none v A A' xs.length c i c' hi (by omega) hv2).mono fun e w' ⟨he, hw⟩ => ⟨v, he, hw ▸ hv, hw ▸ Only.refl _ _, fun k hk => .inl hk⟩
  · rcases own_open hu with ⟨rfl, rfl⟩ | ⟨vb, vc, ul, rfl, _, hub, hul, huc, hus, hut⟩
    · simp at h0
    have hvs : ∀ j x, (ys.map encZ)[j]? = some x → w.cell? ⟨vb, 0 + j, none⟩ = some x := fun j x hj => by rw [Nat.zero_add, cell_list hub]; exact get_of_take hut hj
    have grow : ∀ (base : Option Addr) (c : Nat), v = .slice base xs.length c → c < xs.length + ys.length → xs.length ≤ c → (base = none → xs.length = 0) → (∀ a, base = some a → ∀ j x, (xs.map encZ)[j]? = some x → w.cell? (a.add j) = some x) → i = xs.length →
        Calls Tryz.prog 254 #[v, .int .i64 i, .slice (some ⟨vb, 0, none⟩) ys.length vc] w (InsP w D v (xs.take i ++ ys ++ xs.drop i)) := fun base c hvv hc hnc hb1 hb2 hi2 => by
      subst hi2
      have hm : grownCap w (xs.length + ys.length) c 3 ≤ maxLen := grownCap_le_maxLen _ _ _ _ (by unfold maxLen; omega)
      have hge := grownCap_ge w (xs.length + ys.length) c 3
      rw [hvv]
      refine (Any2.slices_Insert_int_end_grow Tryz.laysInsert base xs.length c vb 0 ys.length vc (xs.map encZ) (ys.map encZ) w h0 hnc hc (by omega) (by simp) (by simp) hb1 hb2 hvs (int_one _)).mono ?_
      rintro e w' ⟨rfl, rfl⟩
      rw [List.take_of_length_le (Nat.le_refl _), List.drop_eq_nil_of_le (Nat.le_refl _), List.append_nil]
      have hlen : (xs ++ ys).length = xs.length + ys.length := by simp
      refine ⟨_, rfl, ?_, (Only.refl _ w).drew.alloc _, fun k hk => .inr (by simp [Value.ownBlock] at hk; omega)⟩
      have := own_mk (w := w.drew.alloc (.cells ((xs.map encZ ++ ys.map encZ).toArray ++ Builtin.zeroCells (Value.int .i64 0).cells (grownCap w (xs.length + ys.length) c 3 - (xs.length + ys.length))) 3)) (D := D) (g := w.heap.size) (cap := grownCap w (xs.length + ys.length) c 3)
        (cl := (xs ++ ys).map encZ ++ List.replicate (grownCap w (xs.length + ys.length) c 3 - (xs.length + ys.length)) (encZ 0)) (xs := xs ++ ys) hD
        (by
          have h1 := (MapKept.heap_alloc w.drew (.cells ((xs.map encZ ++ ys.map encZ).toArray ++ Builtin.zeroCells (Value.int .i64 0).cells (grownCap w (xs.length + ys.length) c 3 - (xs.length + ys.length))) 3)).1
          have e : ((xs ++ ys).map encZ ++ List.replicate (grownCap w (xs.length + ys.length) c 3 - (xs.length + ys.length)) (encZ 0)).toArray = (xs.map encZ ++ ys.map encZ).toArray ++ Builtin.zeroCells (Value.int .i64 0).cells (grownCap w (xs.length + ys.length) c 3 - (xs.length + ys.length)) := by
            rw [← zeroC]; simp
          rw [e]; exact h1)
        (by rw [hlen]; exact hge) hm (by simp; omega) (by rw [List.take_append_of_le_length (by simp), List.take_of_length_le (by simp)])
      rw [hlen] at this
      exact this
    rcases own_open hv with ⟨rfl, rfl⟩ | ⟨g, cap, cl, rfl, hDg, hgb, hgl, hgm, hgs, hgt⟩
    · exact grow none 0 rfl (by simpa using h0) (Nat.le_refl _) (fun _ => rfl) (fun a h => by cases h) (by simpa using hi)
    · have hcs : ∀ j x, (xs.map encZ)[j]? = some x → w.cell? ⟨g, 0 + j, none⟩ = some x := fun j x hj => by rw [Nat.zero_add, cell_list hgb]; exact get_of_take hgt hj
      have hvg : vb ≠ g := fun e => hne g rfl (by rw [← e]; rfl)
      unfold maxLen at hgm
      by_cases hroom : xs.length + ys.length ≤ cap
      · rcases Nat.lt_or_ge i xs.length with h1 | h1
        · refine (Any2.slices_Insert_int_shift Tryz.laysInsert g 0 xs.length cap i vb 0 ys.length vc (xs.map encZ) (ys.map encZ) w h1 h0 hroom (by omega) hvg (by simp) (by simp) hcs
            (fun j hj => by rw [Nat.zero_add, cell_list hgb]; exact get_len hgs (by omega)) (fun j _ => froz_list hgb _) hvs (int_one _) (int_one _) 3 3 ul.length cl.length (shape_list hub) (shape_list hgb) (by omega) (froz_list hub _) (froz_list hub _)).mono ?_
          rintro e w' ⟨rfl, rfl⟩
          have hA := heap_setCells ((xs.map encZ).drop i) (0 + (i + ys.length)) w.drew cl hgb
          have hB := heap_setCells (ys.map encZ) (0 + i) _ _ hA
          refine ⟨_, rfl, ?_, ((Only.refl _ w).drew.trans ((only_setCells _ _ _).mono (fun k hk => by rw [hk]; rfl))).trans ((only_setCells _ _ _).mono (fun k hk => by rw [hk]; rfl)), fun k hk => .inl hk⟩
          have hlen : (xs.take i ++ ys ++ xs.drop i).length = xs.length + ys.length := by simp; omega
          have := own_mk (D := D) (xs := xs.take i ++ ys ++ xs.drop i) (cap := cap) hDg hB (by omega) (by unfold maxLen; omega) (by rw [stL_length, stL_length]; exact hgs) (by
            rw [hlen, stL_eq _ _ _ (by rw [stL_length]; simp; omega), stL_eq _ _ _ (by simp; omega)]
            have t1 : cl.take i = (xs.map encZ).take i := take_of_take hgt (by omega)
            simp only [Nat.zero_add, List.length_map, List.length_drop]
            have e1 : (cl.take (i + ys.length) ++ (xs.map encZ).drop i ++ cl.drop (i + ys.length + (xs.length - i))).take i = (xs.map encZ).take i := by
              rw [List.append_assoc, List.take_append_of_le_length (by simp; omega), List.take_take, Nat.min_eq_left (by omega), t1]
            have e2 : (cl.take (i + ys.length) ++ (xs.map encZ).drop i ++ cl.drop (i + ys.length + (xs.length - i))).drop (i + ys.length) = (xs.map encZ).drop i ++ cl.drop (i + ys.length + (xs.length - i)) := by
              rw [List.append_assoc, List.drop_append, List.drop_eq_nil_of_le (by simp; omega), List.nil_append, List.length_take, Nat.min_eq_left (by omega), Nat.sub_self, List.drop_zero]
            rw [e1, e2, ← List.append_assoc, List.take_append_of_le_length (by simp; omega), List.take_of_length_le (by simp; omega)]
            simp [List.map_take, List.map_drop])
          rw [hlen] at this
          exact this
        · have hie : i = xs.length := by omega
          subst hie
          refine (Any2.slices_Insert_int_end_room Tryz.laysInsert g 0 xs.length cap vb 0 ys.length vc (ys.map encZ) w h0 hroom (by omega) (by simp) (fun j hj => by rw [Nat.zero_add, cell_list hgb]; exact get_len hgs (by omega)) (fun j _ => froz_list hgb _) hvs (int_one _)).mono ?_
          rintro e w' ⟨rfl, rfl⟩
          have hB := heap_setCells (ys.map encZ) (0 + xs.length) w cl hgb
          refine ⟨_, rfl, ?_, (only_setCells _ _ _).mono (fun k hk => by rw [hk]; rfl), fun k hk => .inl hk⟩
          rw [List.take_of_length_le (Nat.le_refl _), List.drop_eq_nil_of_le (Nat.le_refl _), List.append_nil]
          have hlen : (xs ++ ys).length = xs.length + ys.length := by simp
          have := own_mk (D := D) (xs := xs ++ ys) (cap := cap) hDg hB (by omega) (by unfold maxLen; omega) (by rw [stL_length]; exact hgs) (by
            rw [hlen, stL_eq _ _ _ (by simp; omega), Nat.zero_add, hgt, List.take_append_of_le_length (by simp), List.take_of_length_le (by simp)]; simp)
          rw [hlen] at this
          exact this
      · rcases Nat.lt_or_ge i xs.length with h1 | h1
        · refine (Any2.slices_Insert_int_grow Tryz.laysInsert g 0 xs.length cap i vb 0 ys.length vc (xs.map encZ) (ys.map encZ) w h1 h0 hgl (by omega) (by omega) (by simp) (by simp) hcs hvs (int_one _) (int_one _)).mono ?_
          rintro e w' ⟨rfl, rfl⟩
          have hm : grownCap w (xs.length + ys.length) cap 3 ≤ maxLen := grownCap_le_maxLen _ _ _ _ (by unfold maxLen; omega)
          have hge := grownCap_ge w (xs.length + ys.length) cap 3
          obtain ⟨GC, hGC⟩ : ∃ GC, GC = grownCap w (xs.length + ys.length) cap 3 := ⟨_, rfl⟩
          have hGC2 : grownCap w (xs.length + ys.length) cap (Tryz.laysInsert_ren.t 3) = GC := hGC.symm
          rw [hGC2]
          rw [← hGC] at hm hge
          have hlen : (xs.take i ++ ys ++ xs.drop i).length = xs.length + ys.length := by simp; omega
          have h1' := (MapKept.heap_alloc w (.cells (((xs.map encZ).take i).toArray ++ Builtin.zeroCells (Value.int .i64 0).cells (xs.length + ys.length - i) ++ Builtin.zeroCells (Value.int .i64 0).cells (GC - (xs.length + ys.length))) (Tryz.laysInsert_ren.t 3))).1
          have e : ((xs.map encZ).take i).toArray ++ Builtin.zeroCells (Value.int .i64 0).cells (xs.length + ys.length - i) ++ Builtin.zeroCells (Value.int .i64 0).cells (GC - (xs.length + ys.length)) = ((xs.map encZ).take i ++ List.replicate (GC - i) (encZ 0)).toArray := by
            apply Array.toList_inj.1
            simp only [Array.toList_append, zeroC]
            rw [List.append_assoc, List.replicate_append_replicate]
            congr 2; omega
          rw [e] at h1' ⊢
          have hA := heap_setCells (ys.map encZ) i _ _ (show (w.alloc (.cells ((xs.map encZ).take i ++ List.replicate (GC - i) (encZ 0)).toArray (Tryz.laysInsert_ren.t 3))).drew.heap[w.heap.size]? = some (.cells ((xs.map encZ).take i ++ List.replicate (GC - i) (encZ 0)).toArray 3 (0, 0)) from h1')
          have hB := heap_setCells ((xs.map encZ).drop i) (i + ys.length) (((w.alloc (.cells ((xs.map encZ).take i ++ List.replicate (GC - i) (encZ 0)).toArray (Tryz.laysInsert_ren.t 3))).drew.setCells w.heap.size i (ys.map encZ)).drew) _ hA
          refine ⟨_, rfl, ?_, ?_, fun k hk => .inr (by simp [Value.ownBlock] at hk; omega)⟩
          · have := own_mk (D := D) (xs := xs.take i ++ ys ++ xs.drop i) (cap := GC) hD hB (by omega) hm (by rw [stL_length, stL_length]; simp; omega) (by
              rw [hlen, stL_eq _ _ _ (by rw [stL_length]; simp; omega), stL_eq _ _ _ (by simp; omega)]
              have l1 : ((xs.map encZ).take i).length = i := by simp; omega
              have e1 : ((xs.map encZ).take i ++ List.replicate (GC - i) (encZ 0)).take i = (xs.map encZ).take i := by rw [List.take_append_of_le_length (by omega), List.take_of_length_le (by omega)]
              rw [e1]
              have l2 : ((xs.map encZ).take i ++ ys.map encZ).length = i + ys.length := by simp; omega
              have e2 : ∀ Z : List Value, ((xs.map encZ).take i ++ ys.map encZ ++ Z).take (i + ys.length) = (xs.map encZ).take i ++ ys.map encZ := fun Z => by
                rw [List.take_append_of_le_length (by omega), List.take_of_length_le (by omega)]
              rw [e2, List.take_append_of_le_length (by simp; omega), List.take_of_length_le (by simp; omega)]
              simp [List.map_take, List.map_drop])
            rw [hlen] at this
            exact this
          · exact (((((Only.refl _ w).alloc _).drew).then (only_setCells _ _ _) (fun k hk hlt => by omega)).drew).then (only_setCells _ _ _) (fun k hk hlt => by omega)
        · exact grow (some ⟨g, 0, none⟩) cap rfl (by omega) hgl (fun h => by cases h) (fun a h j x hj => by cases h; rw [Addr.add_lit]; exact hcs j x hj) (by omega)
theorem bsearch_own {D : Nat} {v : Value} {xs : List Int} (hv : ROwn encI 3 1 D w v xs) (hs : xs.Pairwise (· ≤ ·)) (hl : xs.length ≤ 1000000) (x : Int) :
    Calls Tryz.prog 253 #[v, .int .i64 x] w fun e w' => e = .returned (.tuple #[.int .i64 (xs.countP (· < x) : Nat), .bool (xs.contains x)]) ∧ Below w.heap.size w w' := by
  rcases own_open hv with ⟨rfl, rfl⟩ | ⟨g, cap, cl, rfl, hDg, hgb, hgl, hgm, hgs, hgt⟩
  · exact (bsearch_nil x).mono fun e w' ⟨he, hw⟩ => ⟨by rw [he]; rfl, hw ▸ Below.refl _ _⟩
  · have := Any.slices_BinarySearch_int Tryz.laysSearch g 0 xs.length cap xs x w (Nat.le_refl _) (by omega) (fun j hj => by
      rw [Nat.zero_add, cell_list hgb]; exact get_of_take hgt (by simp [List.getElem?_map, List.getElem?_eq_getElem hj, List.getD_eq_getElem?_getD])) (by rw [List.take_of_length_le (Nat.le_refl _)]; exact hs)
    rw [List.take_of_length_le (Nat.le_refl _)] at this
    refine this.mono ?_
    rintro e w' ⟨rfl, q, rfl⟩
    exact ⟨rfl, below_drewN (Below.refl _ _) _⟩
end
end Go.Proofs.YtcfdalmllegefaaGreatDoor
/- package gap: the whole of a text's memory; Insert, any text. -/
namespace Go.Proofs.YtcfdalmllegefaaGreatDoor
open Go.RowKit Go.Lib
set_option linter.unusedVariables false
set_option linter.unusedSimpArgs false
/-- The blocks of a text. -/
def gapFoot (t g : Nat) (fv : Value) (k : Nat) : Prop := k = t ∨ k = g ∨ fv.ownBlock = some k
structure GapX (w : World) (t g : Nat) (fv : Value) (B : List Int) (st en : Nat) (cs : List Nat) : Prop where
  gw : GapW w t g B st en fv
  own : ROwn encI 3 1 0 w fv (feeds cs)
  nf : ∀ k, fv.ownBlock = some k → k ≠ t ∧ k ≠ g
  txt : B.take st ++ B.drop en = cs.map Int.ofNat
  cn : ∀ c ∈ cs, isN c
  le : cs.length ≤ 65536
section
variable {w w' : World} {t g st en : Nat} {fv : Value} {B : List Int} {cs : List Nat}
theorem GapX.r (h : GapX w t g fv B st en cs) : GapR w t g cs :=
  ⟨B, B.length, st, en, ⟨h.gw.blk.cell (j := 0) rfl, h.gw.blk.cell (j := 1) rfl, h.gw.blk.cell (j := 2) rfl, Nat.le_refl _, by have := h.gw.lim; omega, h.gw.buf.lt, fun i z hz => h.gw.buf.cell (by simp [hz]), h.gw.h1, h.gw.h2, h.txt, fun c hc => h.cn c hc⟩⟩
theorem GapX.foot_lt (h : GapX w t g fv B st en cs) {k : Nat} (hk : gapFoot t g fv k) : k < w.heap.size := by
  rcases hk with rfl | rfl | hk
  · exact h.gw.blk.lt
  · exact h.gw.buf.lt
  · exact h.own.lt hk
theorem GapX.only {S : Nat → Prop} (h : GapX w t g fv B st en cs) (ho : Only S w w') (hd : ∀ k, gapFoot t g fv k → ¬ S k) : GapX w' t g fv B st en cs :=
  ⟨h.gw.only ho (hd t (.inl rfl)) (hd g (.inr (.inl rfl))), h.own.kept (fun k hk => ho.block k (h.own.lt hk) (hd k (.inr (.inr hk)))), h.nf, h.txt, h.cn, h.le⟩
theorem GapX.up (h : GapX w t g fv B st en cs) (hb : Below w.heap.size w w') : GapX w' t g fv B st en cs := ⟨h.gw.up hb, h.own.up hb, h.nf, h.txt, h.cn, h.le⟩
theorem GapX.len (h : GapX w t g fv B st en cs) : cs.length + (en - st) = B.length := by
  have e := congrArg List.length h.txt
  have := h.gw.h1; have := h.gw.h2
  simp only [List.length_append, List.length_take, List.length_drop, List.length_map] at e
  omega
theorem ggrow_any {n : Nat} (h : GapW w t g B st en fv) (hn2 : n ≤ 65536) (hsz : B.length - (en - st) + n ≤ 65536) :
    Calls Tryz.prog 252 #[.pointer (some ⟨t, 0, none⟩), .int .i64 n] w fun e w' => e = .returned (.tuple #[]) ∧ Only (fun k => k = t) w w' ∧ ∃ g' B' en', (g' = g ∨ w.heap.size ≤ g') ∧ GapW w' t g' B' st en' fv ∧ n ≤ en' - st ∧ B'.take st = B.take st ∧ B'.drop en' = B.drop en := by
  by_cases hn : n ≤ en - st
  · exact (ggrow_no h hn).mono fun e w' ⟨he, hb⟩ => ⟨he, Only.of_below hb, g, B, en, .inl rfl, h.up hb, hn, rfl, rfl⟩
  · refine (ggrow_yes h (by omega) hn2 hsz).mono ?_
    rintro e w' ⟨he, ho, g', B', en', h1, h2, h3, h4, h5⟩
    exact ⟨he, ho, g', B', en', .inr h1, h2, h3, h4, h5⟩
end
/-- A text with m put in at p. -/
def insC (cs : List Nat) (p : Nat) (m : List Nat) : List Nat := cs.take (p - 1) ++ m ++ cs.drop (p - 1)
/-- What an edit of a text turns. -/
def GapTo (w : World) (t g : Nat) (fv : Value) (cs : List Nat) (w' : World) : Prop :=
  Only (gapFoot t g fv) w w' ∧ ∃ g' fv' B' st' en', GapX w' t g' fv' B' st' en' cs ∧ ∀ k, gapFoot t g' fv' k → gapFoot t g fv k ∨ w.heap.size ≤ k
/-- The first feeds moved: those from i on up to j, by n. -/
def bump (xs : List Int) (i j : Nat) (n : Int) : List Int := xs.take i ++ ((xs.drop i).take (j - i)).map (fun z => z + n) ++ xs.drop j
theorem bump_start (xs : List Int) (i : Nat) (n : Int) : bump xs i i n = xs := by simp [bump]
theorem bump_len {xs : List Int} {i j : Nat} (n : Int) (h1 : i ≤ j) (h2 : j ≤ xs.length) : (bump xs i j n).length = xs.length := by
  simp only [bump, List.length_append, List.length_map, List.length_take, List.length_drop]; omega
theorem bump_get {xs : List Int} {i j : Nat} (n : Int) (h1 : i ≤ j) (h2 : j < xs.length) : (bump xs i j n)[j]? = some xs[j] := by
  unfold bump
  rw [List.getElem?_append_right (by simp; omega)]
  have e : (xs.take i ++ ((xs.drop i).take (j - i)).map (fun z => z + n)).length = j := by simp; omega
  rw [e, Nat.sub_self, List.getElem?_drop]; simp [h2]
theorem bump_step {xs : List Int} {i j : Nat} (n : Int) (h1 : i ≤ j) (h2 : j < xs.length) : (bump xs i j n).set j (xs[j] + n) = bump xs i (j + 1) n := by
  unfold bump
  have e : (xs.take i ++ ((xs.drop i).take (j - i)).map (fun z => z + n)).length = j := by simp; omega
  rw [List.set_append_right _ _ (by omega), e, Nat.sub_self]
  have e2 : xs.drop j = xs[j] :: xs.drop (j + 1) := List.drop_eq_getElem_cons h2
  rw [e2, List.set_cons_zero]
  have e3 : (xs.drop i).take (j + 1 - i) = (xs.drop i).take (j - i) ++ [xs[j]] := by
    rw [show j + 1 - i = (j - i) + 1 by omega, List.take_succ_eq_append_getElem (by simp; omega)]
    congr 2; simp; congr 1; omega
  rw [e3, List.map_append, List.append_assoc, List.append_assoc, List.append_assoc]
  simp
theorem bump_end {xs : List Int} {i : Nat} (n : Int) : bump xs i xs.length n = xs.take i ++ (xs.drop i).map (fun z => z + n) := by
  unfold bump
  have e : (xs.drop i).take (xs.length - i) = xs.drop i := List.take_of_length_le (by simp)
  rw [e, List.drop_length]; simp
end Go.Proofs.YtcfdalmllegefaaGreatDoor
/- package gap: Insert, any text. -/
namespace Go.Proofs.YtcfdalmllegefaaGreatDoor
open Go.RowKit Go.Lib
set_option linter.unusedVariables false
set_option linter.unusedSimpArgs false
structure InsL (w wr : World) (foot : Nat → Prop) (t g' : Nat) (fv : Value) (B0 : List Int) (i en' K : Nat) (s : ByteArray) (ms : List Nat) (Y : List Int) (va : Value) (p : Nat) (pre rest : List Nat) : Prop where
  hp : p ≤ s.size
  ms : ms = pre ++ rest
  rest : charsD (s.data.toList.drop p) = some rest
  it : wr.heap[K]? = some (.stringIter s p)
  gw : ∃ B, GapW wr t g' B (i + pre.length) en' fv ∧ B.take (i + pre.length) = B0.take i ++ pre.map Int.ofNat ∧ B.drop en' = B0.drop en'
  fd : ROwn encI 3 1 0 wr fv Y
  fr : ROwn encI 3 1 (K + 1) wr va (feedsF (1 + i) pre)
  on : Only foot w wr
  sz : K + 1 ≤ wr.heap.size
section
variable {w W wr : World} {foot : Nat → Prop} {t g' i en' K p p' c : Nat} {fv va v' : Value} {B0 Y : List Int} {s : ByteArray} {ms pre rest rest' : List Nat}
/-- A world in which only new blocks have come, and the iterator has moved. -/
theorem InsL.moved (h : InsL w wr foot t g' fv B0 i en' K s ms Y va p pre rest) (hk : ∀ k, k < wr.heap.size → k ≠ K → W.heap[k]? = wr.heap[k]?) (hz : wr.heap.size ≤ W.heap.size) (hon : Only (fun k => k = K) wr W) (hKw : w.heap.size ≤ K) (hnK : t < K ∧ g' < K ∧ (∀ q, fv.ownBlock = some q → q < K)) :
    (∃ B, GapW W t g' B (i + pre.length) en' fv ∧ B.take (i + pre.length) = B0.take i ++ pre.map Int.ofNat ∧ B.drop en' = B0.drop en') ∧ ROwn encI 3 1 0 W fv Y ∧ ROwn encI 3 1 (K + 1) W va (feedsF (1 + i) pre) ∧ Only foot w W ∧ K + 1 ≤ W.heap.size := by
  obtain ⟨B, hg, h1, h2⟩ := h.gw
  have hsz := h.sz
  refine ⟨⟨B, ⟨hg.blk.kept (hk _ (by omega) (by omega)), hg.buf.kept (hk _ (by omega) (by omega)), hg.tg, hg.lim, hg.h1, hg.h2⟩, h1, h2⟩, h.fd.kept (fun q hq => hk q (by have := hnK.2.2 q hq; omega) (by have := hnK.2.2 q hq; omega)),
    h.fr.kept (fun q hq => hk q (h.fr.lt hq) (by have := h.fr.base hq; omega)), h.on.then hon (fun k hk hlt => by omega), by omega⟩
theorem InsL.step {B : List Int} (hd3 : p' ≤ s.size) (hms : ms = pre ++ c :: rest') (hr : charsD (s.data.toList.drop p') = some rest') (hit : W.heap[K]? = some (.stringIter s p'))
    (hg : GapW W t g' B (i + pre.length) en' fv) (h1 : B.take (i + pre.length) = B0.take i ++ pre.map Int.ofNat) (h2 : B.drop en' = B0.drop en') (hfd : ROwn encI 3 1 0 W fv Y) (hfr : ROwn encI 3 1 (K + 1) W v' (feedsF (1 + i) (pre ++ [c])))
    (hon : Only foot w W) (hsz : K + 1 ≤ W.heap.size) (hft : foot t) (hfg : foot g' ∨ w.heap.size ≤ g') (hnK : t < K ∧ g' < K ∧ (∀ q, fv.ownBlock = some q → q < K ∧ q ≠ t ∧ q ≠ g')) (hroom : i + pre.length < en') :
    InsL w (((W.setCell ⟨g', i + pre.length, none⟩ (.int .i32 c)).setCell ⟨t, 1, none⟩ (.int .i64 ((i + pre.length : Nat) + 1))).drew) foot t g' fv B0 i en' K s ms Y v' p' (pre ++ [c]) rest' := by
  have hb1 := hg.buf.set (j := i + pre.length) (by have := hg.h2; simp; omega) (.int .i32 c)
  have hb2 := hb1.kept (Below.heap_setCell (W.setCell ⟨g', i + pre.length, none⟩ (.int .i32 c)) ⟨t, 1, none⟩ (.int .i64 ((i + pre.length : Nat) + 1)) g' (fun e => hg.tg e.symm))
  have hc1 := hg.blk.kept (Below.heap_setCell W ⟨g', i + pre.length, none⟩ (.int .i32 c) t (fun e => hg.tg e))
  have hc2 := hc1.set (j := 1) (by simp) (.int .i64 ((i + pre.length : Nat) + 1))
  have hk : ∀ k, k ≠ t → k ≠ g' → (((W.setCell ⟨g', i + pre.length, none⟩ (.int .i32 c)).setCell ⟨t, 1, none⟩ (.int .i64 ((i + pre.length : Nat) + 1))).drew).heap[k]? = W.heap[k]? := fun k k1 k2 =>
    (Below.heap_setCell _ ⟨t, 1, none⟩ _ _ (show k ≠ t from k1)).trans (Below.heap_setCell _ ⟨g', i + pre.length, none⟩ _ _ (show k ≠ g' from k2))
  have hlen : (pre ++ [c]).length = pre.length + 1 := by simp
  have hgh := hg.h2
  have e1 : (rowR B).set (i + pre.length) (.int .i32 c) (by have := hg.h2; simp; omega) = rowR (B.set (i + pre.length) (c : Int)) := by
    apply Array.ext'
    simp [List.map_set]
  refine ⟨hd3, by rw [hms]; simp, hr, (hk K (by omega) (by omega)).trans hit, ⟨B.set (i + pre.length) (c : Int), ⟨?_, ?_, hg.tg, by rw [List.length_set]; exact hg.lim, by rw [hlen]; omega, by rw [List.length_set]; omega⟩, ?_, ?_⟩, hfd.kept (fun q hq => hk q (hnK.2.2 q hq).2.1 (hnK.2.2 q hq).2.2), hfr.kept (fun q hq => hk q (by have := hfr.base hq; omega) (by have := hfr.base hq; omega)), ?_, by simpa using hsz⟩
  · rw [List.length_set, hlen]
    have e : ((i + pre.length : Nat) + 1 : Int) = ((i + (pre.length + 1) : Nat) : Int) := by omega
    have := hc2
    rw [e] at this
    exact this
  · rw [← e1]
    exact hb2
  · rw [hlen, show i + (pre.length + 1) = (i + pre.length) + 1 by omega, List.take_succ_eq_append_getElem (by simp; omega), List.take_set_of_le (Nat.le_refl _), h1]
    simp
  · rw [List.drop_set_of_lt (by omega), h2]
  · rcases hfg with hf | hf
    · exact ((hon.setCell (p := ⟨g', i + pre.length, none⟩) hf _).setCell (p := ⟨t, 1, none⟩) hft _).drew
    · exact ((hon.then (T := fun k => k = g') ((Only.refl (fun k => k = g') W).setCell (p := ⟨g', i + pre.length, none⟩) rfl _) (fun k hk hlt => by omega)).setCell (p := ⟨t, 1, none⟩) hft _).drew
end
section
variable {w w' : World} {t g st en : Nat} {fv : Value} {B : List Int} {cs : List Nat}
set_option maxRecDepth 100000 in
set_option maxHeartbeats 4000000 in
theorem ginsert_ok {N : Nat} (hT : Tabs N w) (h : GapX w t g fv B st en cs) (hNf : ∀ k, gapFoot t g fv k → N ≤ k) (s : ByteArray) (hs : s.size ≤ 262144) (hv : (charsD s.data.toList).isSome = true) (p : Nat) (hp1 : 1 ≤ p) (hp2 : p ≤ cs.length + 1) (hfit : cs.length + (chrs s).length ≤ 65536) :
    Calls Tryz.prog 180 #[.pointer (some ⟨t, 0, none⟩), .int .i64 p, .string s] w fun e w' => e = .returned (.int .i64 0) ∧ GapTo w t g fv (insC cs p (chrs s)) w' := by
  have HL := rlenG_chars hv
  have HI := chrs_isN s
  obtain ⟨ms, hms⟩ := Option.isSome_iff_exists.1 hv
  have hcc : chrs s = ms := by unfold chrs; rw [hms]; rfl
  rw [hcc] at HL HI hfit ⊢
  have hvl : vld s = true := by rw [vld_chars]; exact hv
  obtain ⟨n, hnn⟩ : ∃ n, n = ms.length := ⟨_, rfl⟩
  have hlen := h.len
  have h1 := h.gw.h1
  have h2 := h.gw.h2
  rw [← hnn] at HL hfit
  obtain ⟨i, hi⟩ : ∃ i, i + 1 = p := ⟨p - 1, by omega⟩
  obtain ⟨C, hC⟩ : ∃ C, C = cs.length := ⟨_, rfl⟩
  have s1 : IntKind.i64.wrap ((p : Int) - 1) = (i : Int) := by rw [IntWalk.i64_in _ (by omega)]; omega
  have d1 : decide ((p : Int) < 1) = false := decide_eq_false (by omega)
  have d4 : decide ((C : Int) + 1 < (p : Int)) = false := decide_eq_false (by omega)
  have d5 : decide ((65536 : Int) - C < (n : Int)) = false := decide_eq_false (by omega)
  have s4 : IntKind.i64.wrap ((65536 : Int) - C) = (65536 : Int) - C := IntWalk.i64_in _ (by omega)
  have s5 : IntKind.i64.wrap ((C : Int) + 1) = (C : Int) + 1 := IntWalk.i64_in _ (by omega)
  have hgs := fun (w' : World) (hb : Below w.heap.size w w') => gsize (h.r.up hb)
  rw [← hC] at hgs
  have HGS := Lib.hid hgs
  have AA := Lib.hid (⟨hms, hnn, hlen, h1, h2, hfit, hi, hp1, hp2, HI, hcc, hC⟩ : _ ∧ _ ∧ _ ∧ _ ∧ _ ∧ _ ∧ _ ∧ _ ∧ _ ∧ _ ∧ _ ∧ _)
  have H := Lib.hid h
  have HT := Lib.hid hT
  have HN := Lib.hid (gnone0 h.gw.blk rfl)
  have HLQ := Lib.hid HL
  have HNF := Lib.hid hNf
  have HVL := Lib.hid hvl
  clear hv hcc hms HI h hT hnn hlen h1 h2 hfit hi hp1 hp2 hC hgs HL hNf hvl
  go_enter Tryz.func180, Tryz.ntmps180
  go_wp2_with fail
  refine HN.out.mono ?_
  rintro e w' ⟨rfl, rfl⟩
  clear HN
  go_wp2_with fail
  refine (HGS.out w (Below.refl _ _)).mono ?_
  rintro e w1 ⟨rfl, hb1⟩
  have B1 := Lib.hid hb1
  have hV := valid_any s w1 (by omega) (HT.out.up hb1)
  rw [HVL.out] at hV
  have V := Lib.hid hV
  clear hb1 hV
  go_wp2_with fail
  refine V.out.mono ?_
  rintro e w2 ⟨rfl, hb2⟩
  have B2 := Lib.hid (up2 B1.out hb2)
  have hLn := runesLen s w2 (by omega) (HT.out.up B2.out)
  rw [HLQ.out] at hLn
  have V := Lib.hid hLn
  clear hb2 hLn
  go_wp2_with fail
  refine V.out.mono ?_
  rintro e w3 ⟨rfl, hb3⟩
  have B3 := Lib.hid (up2 B2.out hb3)
  clear hb3
  go_wp2_with fail
  refine (HGS.out w3 B3.out).mono ?_
  rintro e w4 ⟨rfl, hb4⟩
  have B4 := Lib.hid (up2 B3.out hb4)
  clear hb4 V d1 d4
  go_wp2_with fail
  refine (gmove_ok (H.out.up B4.out).gw (i := i) (by have := AA.out; omega)).mono ?_
  rintro e w5 ⟨rfl, ho5, hz5, B5, hg5, hl5, ht5⟩
  obtain ⟨G, hG⟩ : ∃ G, G = en - st := ⟨_, rfl⟩
  rw [← hG] at hg5 ht5
  rw [(H.out).txt] at ht5
  have HX5 := Lib.hid (show GapX w5 t g fv B5 i (i + G) cs from ⟨hg5, ((H.out.up B4.out).own).kept (fun k hk => ho5.block k ((H.out.up B4.out).own.lt hk) (fun e => by have := H.out.nf k hk; omega)), H.out.nf, ht5, H.out.cn, H.out.le⟩)
  have O5 := Lib.hid (show Only (gapFoot t g fv) w w5 from (Only.of_below B4.out).trans (ho5.mono (fun k hk => hk.elim .inl (fun h => .inr (.inl h)))))
  have HG := Lib.hid hG
  have HL5 := Lib.hid hl5
  clear ho5 hz5 hg5 hl5 ht5 hG d5 s4
  go_wp2_with fail
  refine (ggrow_any HX5.out.gw (n := n) (by have := AA.out; omega) (by have := AA.out; have := HX5.out.len; omega)).mono ?_
  rintro e w6 ⟨rfl, ho6, g', B6, en', hgg, hg6, hn6, htk, hdr⟩
  have hg'1 : ∀ k, fv.ownBlock = some k → k ≠ t ∧ k ≠ g' := fun k hk => ⟨(H.out.nf k hk).1, by
    have h1 := (H.out.nf k hk).2
    have h2 := HX5.out.own.lt hk
    omega⟩
  have hown6 : ROwn encI 3 1 0 w6 fv (feeds cs) := HX5.out.own.kept (fun k hk => ho6.block k (HX5.out.own.lt hk) (H.out.nf k hk).1)
  have hO6 : Only (gapFoot t g fv) w w6 := O5.out.trans (ho6.mono (fun k hk => .inl hk))
  have hzz : w.heap.size ≤ w5.heap.size := O5.out.size
  have htx : B6.take i ++ B6.drop en' = cs.map Int.ofNat := by rw [htk, hdr]; exact HX5.out.txt
  have hfl : (feeds cs).length ≤ 65536 := by have := feedsF_len cs 1; have := H.out.le; unfold feeds; omega
  have hG6 : gapFoot t g' fv = gapFoot t g' fv := rfl
  have hnew : g' = g ∨ w.heap.size ≤ g' := by omega
  have hBS := bsearch_own hown6 ((feedsF_sorted cs 1).imp (fun h => Int.le_of_lt h)) (by omega) (p : Int)
  have hcn : (feeds cs).countP (fun z => decide (z < (p : Int))) = (feeds (cs.take i)).length := by
    have := feeds_count (cs.take i) (cs.drop i) (p : Int) (by have := AA.out; simp; omega)
    rwa [List.take_append_drop] at this
  obtain ⟨X, hX⟩ : ∃ X, X = feeds cs := ⟨_, rfl⟩
  rw [← hX] at hown6 hfl hBS hcn
  rw [hcn] at hBS
  obtain ⟨i2, hi2⟩ : ∃ i2, i2 = (feeds (cs.take i)).length := ⟨_, rfl⟩
  rw [← hi2] at hBS hcn
  have hi2l : i2 ≤ X.length := by rw [← hcn]; exact List.countP_le_length
  have HQ := Lib.hid (⟨hg'1, hO6, hnew, htx, hfl, hX, hi2, hi2l, hn6⟩ : _ ∧ _ ∧ _ ∧ _ ∧ _ ∧ _ ∧ _ ∧ _ ∧ _)
  have HG6 := Lib.hid hg6
  have HOW6 := Lib.hid hown6
  have HBS := Lib.hid hBS
  clear ho6 hgg htk hdr hzz hG6 hg'1 hO6 hnew htx hfl hX hi2 hi2l hn6 hcn hBS
  obtain ⟨A, cap, rfl, hcp1, hcp2, hrs⟩ := hown6.shape eltI
  clear hrs hown6
  have c3 : w6.cell? ⟨t, 3, none⟩ = some (.slice A X.length cap) := hg6.blk.cell (j := 3) rfl
  clear hg6
  go_wp2_with fail
  refine HBS.out.mono ?_
  rintro e w7 ⟨rfl, hb7⟩
  have HG7 := Lib.hid (HG6.out.up hb7)
  have HOW7 := Lib.hid (HOW6.out.up hb7)
  have B7 := Lib.hid hb7
  have c3 : w7.cell? ⟨t, 3, none⟩ = some (.slice A X.length cap) := HG7.out.blk.cell (j := 3) rfl
  clear hb7 HBS
  go_wp2_with fail
  clear c3
  clear c3
  go_loopw [10] (fun vk wr => ∃ j : Nat, i2 ≤ j ∧ j ≤ X.length ∧ vk = .int .i64 j ∧ GapW wr t g' B6 i en' (.slice A X.length cap) ∧ ROwn encI 3 1 0 wr (.slice A X.length cap) (bump X i2 j n) ∧ Only (gapFoot t g (.slice A X.length cap)) w wr ∧ w7.heap.size ≤ wr.heap.size) (fun vk _ => X.length - (intOf vk).toNat)
  case atStart => exact ⟨i2, Nat.le_refl _, HQ.out.2.2.2.2.2.2.2.1, rfl, HG7.out, by rw [bump_start]; exact HOW7.out, HQ.out.2.1.trans (Only.of_below B7.out), Nat.le_refl _⟩
  case round =>
    obtain ⟨j, hj1, hj2, rfl, hgw, how, hon, hsz⟩ := hrel
    have hXl := HQ.out.2.2.2.2.1
    by_cases hlt : j < X.length
    · have hbl : (bump X i2 j (n : Int)).length = X.length := bump_len _ hj1 hj2
      obtain ⟨q, cap', hAq, _, _, _, hq2, hq3, hq4⟩ := how.lies eltI (by omega)
      have hA2 : A = some ⟨q, 0, none⟩ := by injection hAq
      subst hA2
      have hnq := HQ.out.1 q rfl
      have hx := bump_get (n : Int) hj1 hlt
      have c3 : wr.cell? ⟨t, 3, none⟩ = some (.slice (some ⟨q, 0, none⟩) X.length cap) := hgw.blk.cell (j := 3) rfl
      have hcell : wr.cell? ⟨q, j, none⟩ = some (.int .i64 X[j]) := by
        have := hq4 j X[j] 0 (.int .i64 X[j]) hx rfl
        simpa using this
      have d1 : decide (j < X.length) = true := decide_eq_true hlt
      have hfz : wr.frozen? ⟨q, j, none⟩ = false := hq3 j (by omega)
      have hzb : 1 ≤ X[j] ∧ X[j] ≤ 65537 := by
        have hm : X[j] ∈ feeds cs := by rw [← HQ.out.2.2.2.2.2.1]; exact List.getElem_mem _
        have := feedsF_mem cs 1 X[j] hm
        have := H.out.le
        omega
      have hst := bump_step (n : Int) hj1 hlt
      obtain ⟨z, hz⟩ : ∃ z, z = X[j] := ⟨_, rfl⟩
      rw [← hz] at hx hcell hzb hst
      have s1 : IntKind.i64.wrap (z + (n : Int)) = z + n := IntWalk.i64_in _ (by have := AA.out; omega)
      have s2 : IntKind.i64.wrap ((j : Int) + 1) = ((j + 1 : Nat) : Int) := by rw [IntWalk.i64_in _ (by omega)]; omega
      have RR := Lib.hid (⟨hgw, how, hon, hsz, hx, hbl, hnq, hst, hj1, hlt⟩ : _ ∧ _ ∧ _ ∧ _ ∧ _ ∧ _ ∧ _ ∧ _ ∧ _ ∧ _)
      clear hgw how hon hsz hx hbl hnq hst hj1 hq4 hq3 hAq hXl hzb hz hj2 hcp1 hcp2
      go_wp2_with fail
      go_roundw
      case rel =>
        obtain ⟨hgw, how, hon, hsz, hx, hbl, hnq, hst, hj1, hlt⟩ := RR.out
        refine ⟨j + 1, by omega, by omega, by first | rfl | go_num, ?_, ?_, ?_, ?_⟩
        · exact (hgw.only ((Only.refl (fun k => k = q) wr).setCell (p := ⟨q, j, none⟩) rfl _) (fun e => hnq.1 e.symm) (fun e => hnq.2 e.symm) : GapW _ _ _ _ _ _ _)
        · rw [← hst]
          rw [← hbl] at how ⊢
          have := how.put eltI (i := j) (j := 0) (x := z) (y := z + n) (u := .int .i64 (z + n)) hx (by omega) rfl
          simpa using this
        · exact hon.setCell (p := ⟨q, j, none⟩) (.inr (.inr rfl)) _
        · simpa using hsz
      case measure => simp [intOf]; omega
    · have hje : j = X.length := by omega
      subst hje
      obtain ⟨wA, rfl⟩ : ∃ x, x = wr := ⟨_, rfl⟩
      have d1 : decide (X.length < X.length) = false := decide_eq_false (by omega)
      have c3 : wA.cell? ⟨t, 3, none⟩ = some (.slice A X.length cap) := hgw.blk.cell (j := 3) rfl
      have c1 : wA.cell? ⟨t, 1, none⟩ = some (.int .i64 i) := hgw.blk.cell (j := 1) rfl
      rw [bump_end] at how
      have RR := Lib.hid (⟨hgw, how, hon, hsz⟩ : _ ∧ _ ∧ _ ∧ _)
      clear hgw how hon hj1 hj2 hlt hcp1 hcp2 hsz
      go_wp2_with fail
      clear c1 c3 d1
      have hit := wA.iter_heap s 0
      have hsz : (wA.iter s 0).heap.size = wA.heap.size + 1 := by simp [World.iter]
      have HBi := Lib.hid (show Below wA.heap.size wA (wA.iter s 0) from below1 wA _)
      have hI0 : InsL w (wA.iter s 0) (gapFoot t g (.slice A X.length cap)) t g' (.slice A X.length cap) B6 i en' wA.heap.size s ms (X.take i2 ++ (X.drop i2).map (fun z => z + (n : Int))) (.slice none 0 0) 0 [] ms := by
        obtain ⟨hgw, how, hon, hsz'⟩ := RR.out
        exact ⟨Nat.zero_le _, rfl, by simpa using AA.out.1, hit, ⟨B6, hgw.up HBi.out, by simp, rfl⟩, how.up HBi.out, ROwn.nil _ _, hon.trans (Only.of_below HBi.out), by omega⟩
      have hft : gapFoot t g (.slice A X.length cap) t := .inl rfl
      have hfg : gapFoot t g (.slice A X.length cap) g' ∨ w.heap.size ≤ g' := HQ.out.2.2.1.elim (fun e => .inl (.inr (.inl e))) .inr
      have hKw : w.heap.size ≤ wA.heap.size := RR.out.2.2.1.size
      have hnK : t < wA.heap.size ∧ g' < wA.heap.size ∧ (∀ q, (Value.slice A X.length cap).ownBlock = some q → q < wA.heap.size ∧ q ≠ t ∧ q ≠ g') := ⟨RR.out.1.blk.lt, RR.out.1.buf.lt, fun q hq => ⟨RR.out.2.1.lt hq, HQ.out.1 q hq⟩⟩
      generalize wA.iter s 0 = W0 at *
      have hI0' := Lib.hid hI0
      have K8 := Lib.hid (⟨hft, hfg, hKw, hnK⟩ : _ ∧ _ ∧ _ ∧ _)
      clear hI0 hft hfg hKw hnK hit hsz
      go_loopw [11, 13] (fun va vb w8 => ∃ (p : Nat) (pre rest : List Nat), InsL w w8 (gapFoot t g (.slice A X.length cap)) t g' (.slice A X.length cap) B6 i en' wA.heap.size s ms (X.take i2 ++ (X.drop i2).map (fun z => z + (n : Int))) va p pre rest) (fun _ _ w8 => s.size - w8.iterPos wA.heap.size)
      case atStart => exact ⟨0, [], ms, hI0'.out⟩
      case round =>
        obtain ⟨p', pre, rest, hI⟩ := hrel
        obtain ⟨hft, hfg, hKw, hnK⟩ := K8.out
        have HW := Lib.hid RR.out.2.2.2
        clear RR hI0' HBi
        generalize wA.heap.size = K at *
        have hip : wr.iterPos K = p' := iterPos_of hI.it
        rw [hip]
        have hle : pre.length + rest.length = n := by rw [AA.out.2.1, hI.ms, List.length_append]
        by_cases hlt : p' < s.size
        · obtain ⟨c, rest', hrc, hd1, hd2, hd3, hd4, hc⟩ := decode_step hlt hI.rest
          subst hrc
          have hnx := fun ty => Lib.run_next_any_at (P := Tryz.prog) wr K s p' ty hI.it hlt
          rw [hd1] at hnx
          have hit1 := Lib.iterAt_heap wr K s p' (p' + (Utf8.decode s p').2) hI.it
          have hoth := fun j (hj : j ≠ K) => Lib.iterAt_other wr K j s (p' + (Utf8.decode s p').2) hj
          have hsz1 := Lib.iterAt_size wr K s (p' + (Utf8.decode s p').2)
          have hon1 : Only (fun k => k = K) wr (wr.iterAt K s (p' + (Utf8.decode s p').2)) := ⟨rfl, rfl, rfl, by rw [hsz1]; exact Nat.le_refl _, fun j _ hj => hoth j hj⟩
          have hpp : p' < p' + (Utf8.decode s p').2 := by omega
          clear hd1 hd2
          generalize p' + (Utf8.decode s p').2 = p2 at *
          generalize wr.iterAt K s p2 = w1 at *
          simp only [List.length_cons] at hle
          obtain ⟨⟨B1, hg1, ht1, hr1⟩, hfd1, hfr1, hof1, hsz2⟩ := hI.moved (W := w1) (fun k _ hk => hoth k hk) (by omega) hon1 hKw ⟨hnK.1, hnK.2.1, fun q hq => (hnK.2.2 q hq).1⟩
          have c0 : w1.cell? ⟨t, 0, none⟩ = some (.slice (some ⟨g', 0, none⟩) B1.length B1.length) := hg1.blk.cell (j := 0) rfl
          have c1 : w1.cell? ⟨t, 1, none⟩ = some (.int .i64 ((i + pre.length : Nat) : Int)) := hg1.blk.cell (j := 1) rfl
          have hroom : i + pre.length < en' := by have := HQ.out.2.2.2.2.2.2.2.2; omega
          have hpos := HQ.out
          have hfe : (feedsF (1 + i) pre).length ≤ 65536 := by have := feedsF_len pre (1 + i); have := AA.out; omega
          obtain ⟨S, hS⟩ : ∃ S, S = i + pre.length := ⟨_, rfl⟩
          have hms := hI.ms
          have HMS := Lib.hid hms
          clear hms hpos
          rw [← hS] at c1
          have s1 : IntKind.i64.wrap ((S : Int) + 1) = ((S + 1 : Nat) : Int) := by rw [IntWalk.i64_in _ (by have := AA.out; have := hg1.lim; have := hg1.h2; omega)]; omega
          by_cases h10 : c = 10
          · have d10 : ((c : Int) == (10 : Int)) = true := by simp [h10]
            have n10 : (c = 10) = True := eq_true h10
            obtain ⟨v', w2, happ, hown2, hb2, hon2, _⟩ := append_elem eltI hfr1 hsz2 (((S + 1 : Nat) : Int)) (by omega) (by omega)
            have HP : Hid (∀ ty, (Builtin.append_ #[88, 88] ty #[u11, .slice (some ⟨w1.heap.size, 0, none⟩) 1 1]).run Tryz.prog (w1.alloc (.cells #[.int .i64 (((S + 1 : Nat) : Int))] 3)) = .ok v' w2) := Lib.hid happ
            clear happ
            have HQQ := Lib.hid (⟨hown2, hb2, hon2, hd3, hd4, hit1, hg1, ht1, hr1, hfd1, hof1, hsz2, hroom, hS, hfe, hft, hfg, hKw, hnK, hpp, hlt⟩ : _ ∧ _ ∧ _ ∧ _ ∧ _ ∧ _ ∧ _ ∧ _ ∧ _ ∧ _ ∧ _ ∧ _ ∧ _ ∧ _ ∧ _ ∧ _ ∧ _ ∧ _ ∧ _ ∧ _ ∧ _)
            clear hown2 hb2 hon2 hd3 hd4 hit1 hg1 ht1 hr1 hfd1 hof1 hsz2 hroom hS hfe hft hfg hKw hnK hpp hlt hfr1 hoth hsz1 hon1 hI hip hle hc h10
            go_wp2_with (at_builtin; refine wpList_app_run (v := u11) (u := .slice (some ⟨w1.heap.size, 0, none⟩) 1 1) rfl _ _ _ rfl rfl rfl HP.out ?_)
            obtain ⟨hown2, hb2, hon2, hd3, hd4, hit1, hg1, ht1, hr1, hfd1, hof1, hsz2, hroom, hS, hfe, hft, hfg, hKw, hnK, hpp, hlt⟩ := HQQ.out
            clear HP HQQ c0 c1
            have hk2 : ∀ k, k ≤ K → w2.heap[k]? = w1.heap[k]? := fun k hk => hb2.block k (by omega)
            have hg2 : GapW w2 t g' B1 (i + pre.length) en' (.slice A X.length cap) := ⟨hg1.blk.kept (hk2 _ (by omega)), hg1.buf.kept (hk2 _ (by omega)), hg1.tg, hg1.lim, hg1.h1, hg1.h2⟩
            have hfd2 := hfd1.kept (fun q hq => hk2 q (by have := hnK.2.2 q hq; omega))
            have hof2 : Only (gapFoot t g (.slice A X.length cap)) w w2 := hof1.then (T := fun k => K + 1 ≤ k) ⟨hb2.os, hb2.tape, hb2.output, hb2.size, fun j hj hj2 => hb2.block j (by omega)⟩ (fun j hj hj2 => by omega)
            have hsz2' : K + 1 ≤ w2.heap.size := Nat.le_trans hsz2 hb2.size
            have hit2 := (hk2 K (Nat.le_refl _)).trans hit1
            have hfr3 : ROwn encI 3 1 (K + 1) w2 v' (feedsF (1 + i) (pre ++ [c])) := by
              rw [feedsF_snoc, if_pos (by have := eq_of_beq d10; omega)]
              have e : ((1 + i + pre.length : Nat) : Int) = ((S + 1 : Nat) : Int) := by omega
              rw [e]; exact hown2
            have c0 : w2.cell? ⟨t, 0, none⟩ = some (.slice (some ⟨g', 0, none⟩) B1.length B1.length) := hg2.blk.cell (j := 0) rfl
            have c1 : w2.cell? ⟨t, 1, none⟩ = some (.int .i64 (S : Int)) := by rw [hS]; exact hg2.blk.cell (j := 1) rfl
            have e1 : S < B1.length := by have := hg2.h2; omega
            obtain ⟨zz, hzz⟩ : ∃ zz, B1[S]? = some zz := ⟨_, List.getElem?_eq_getElem e1⟩
            have q2 := hg2.buf.cell (j := S) (v := encR zz) (by simp [hzz])
            have qf := hg2.buf.fz S
            have qf1 := hg2.blk.fz 1
            have htg := hg2.tg
            have hgt := htg.symm
            have HREL := Lib.hid (InsL.step hd3 HMS.out hd4 hit2 hg2 ht1 hr1 hfd2 hfr3 hof2 hsz2' hft hfg ⟨hnK.1, hnK.2.1, hnK.2.2⟩ hroom)
            rw [← hS] at HREL
            have HIT := Lib.hid hit2
            have HNK := Lib.hid hnK
            have HPP := Lib.hid (⟨hpp, hlt, hd3⟩ : _ ∧ _ ∧ _)
            clear hzz hlt hd3 hd4 hit1 hit2 hpp hg1 hg2 ht1 hr1 hfd1 hfd2 hof1 hof2 hsz2 hsz2' hroom hfe hfr3 hk2 hown2 hb2 hon2 hft hfg hKw hnK hS
            go_wp2_with fail
            go_region
            go_wp2_with fail
            go_roundw
            case rel => exact ⟨_, _, _, HREL.out⟩
            case measure =>
              obtain ⟨hpp, hlt, hd3⟩ := HPP.out
              have e : (((w2.setCell ⟨g', S, none⟩ (.int .i32 c)).setCell ⟨t, 1, none⟩ (.int .i64 ((S + 1 : Nat) : Int))).drew).iterPos K = p2 := iterPos_of (by
                exact ((Below.heap_setCell _ ⟨t, 1, none⟩ _ _ (show K ≠ t by have := HNK.out; omega)).trans (Below.heap_setCell _ ⟨g', S, none⟩ _ _ (show K ≠ g' by have := HNK.out; omega))).trans HIT.out)
              first
              | (rw [e]; omega)
              | (have e2 := e; simp only [Int.natCast_add, Int.natCast_one] at e2; rw [e2]; omega)
          · have d10 : ((c : Int) == (10 : Int)) = false := by simp; omega
            have n10 : (c = 10) = False := eq_false h10
            have hfr3 : ROwn encI 3 1 (K + 1) w1 u11 (feedsF (1 + i) (pre ++ [c])) := by
              rw [feedsF_snoc, if_neg h10, List.append_nil]; exact hfr1
            have e1 : S < B1.length := by have := hg1.h2; omega
            obtain ⟨zz, hzz⟩ : ∃ zz, B1[S]? = some zz := ⟨_, List.getElem?_eq_getElem e1⟩
            have q2 := hg1.buf.cell (j := S) (v := encR zz) (by simp [hzz])
            have qf := hg1.buf.fz S
            have qf1 := hg1.blk.fz 1
            have htg := hg1.tg
            have hgt := htg.symm
            have HREL := Lib.hid (InsL.step hd3 HMS.out hd4 hit1 hg1 ht1 hr1 hfd1 hfr3 hof1 hsz2 hft hfg ⟨hnK.1, hnK.2.1, hnK.2.2⟩ hroom)
            rw [← hS] at HREL
            have HIT := Lib.hid hit1
            have HNK := Lib.hid hnK
            have HPP := Lib.hid (⟨hpp, hlt, hd3⟩ : _ ∧ _ ∧ _)
            clear hzz hI hip hle hlt hd3 hd4 hc hit1 hoth hsz1 hon1 hpp hg1 ht1 hr1 hfd1 hfr1 hof1 hsz2 hroom hfe hfr3 hft hfg hKw hnK h10 hS
            go_wp2_with fail
            go_region
            go_wp2_with fail
            go_roundw
            case rel => exact ⟨_, _, _, HREL.out⟩
            case measure =>
              obtain ⟨hpp, hlt, hd3⟩ := HPP.out
              have e : (((w1.setCell ⟨g', S, none⟩ (.int .i32 c)).setCell ⟨t, 1, none⟩ (.int .i64 ((S + 1 : Nat) : Int))).drew).iterPos K = p2 := iterPos_of (by
                exact ((Below.heap_setCell _ ⟨t, 1, none⟩ _ _ (show K ≠ t by have := HNK.out; omega)).trans (Below.heap_setCell _ ⟨g', S, none⟩ _ _ (show K ≠ g' by have := HNK.out; omega))).trans HIT.out)
              first
              | (rw [e]; omega)
              | (have e2 := e; simp only [Int.natCast_add, Int.natCast_one] at e2; rw [e2]; omega)
        · have hp2 : p' = s.size := by have := hI.hp; omega
          have hrn : rest = [] := by
            have h3 : s.data.toList.drop p' = [] := List.drop_eq_nil_of_le (by rw [hp2]; simp)
            have h4 := hI.rest
            rw [h3, charsD_nil] at h4
            cases h4; rfl
          subst hrn
          have hms := hI.ms
          rw [List.append_nil] at hms
          obtain rfl : pre = ms := hms.symm
          have hnx := fun ty => Lib.run_next_end_at (P := Tryz.prog) wr K s p' ty hI.it hlt
          obtain ⟨B1, hg1, ht1, hr1⟩ := hI.gw
          have hfd := hI.fd
          have hfr := hI.fr
          have hon := hI.on
          have hsz := hI.sz
          have hXl := HQ.out.2.2.2.2.1
          have hi2l := HQ.out.2.2.2.2.2.2.2.1
          have hXb : (X.take i2 ++ (X.drop i2).map (fun z => z + (n : Int))).length = X.length := by simp; omega
          have hfl : (feedsF (1 + i) pre).length ≤ n := by have := feedsF_len pre (1 + i); have := AA.out; omega
          have hn6 : n ≤ 65536 := by have := AA.out; omega
          have hIns := sinsert_own (i := i2) hfd hfr (fun q hq e => by have := hnK.2.2 q hq; have := hfr.base e; omega) (by rw [hXb]; exact hi2l) (by omega) (Nat.zero_le _)
          have c3 : wr.cell? ⟨t, 3, none⟩ = some (.slice A X.length cap) := hg1.blk.cell (j := 3) rfl
          have f3 := hg1.blk.fz 3
          have HIns := Lib.hid hIns
          have RR := Lib.hid (⟨hg1, ht1, hr1, hfd, hon, hsz, hft, hfg, hKw, hnK, hXb⟩ : _ ∧ _ ∧ _ ∧ _ ∧ _ ∧ _ ∧ _ ∧ _ ∧ _ ∧ _ ∧ _)
          clear hI hip hle hlt hp2 hms hg1 ht1 hr1 hfd hfr hon hsz hXl hi2l hXb hfl hn6 hIns hft hfg hKw hnK
          go_wp2_with fail
          refine HIns.out.mono ?_
          rintro e w8 ⟨v', rfl, hown8, ho8, hb8⟩
          obtain ⟨hg1, ht1, hr1, hfd, hon, hsz, hft, hfg, hKw, hnK, hXb⟩ := RR.out
          have hb8' : ∀ k, v'.ownBlock = some k → gapFoot t g (.slice A X.length cap) k ∨ w.heap.size ≤ k := fun k hk => (hb8 k hk).elim (fun h => .inl (.inr (.inr h))) (fun h => .inr (by omega))
          have hnt8 : ∀ k, v'.ownBlock = some k → k ≠ t ∧ k ≠ g' := fun k hk => (hb8 k hk).elim (fun h => (hnK.2.2 k h).2) (fun h => by omega)
          have hg8 : GapW w8 t g' B1 (i + pre.length) en' (.slice A X.length cap) := hg1.only ho8 (fun e => (hnK.2.2 t e).2.1 rfl) (fun e => (hnK.2.2 g' e).2.2 rfl)
          have hon8 : Only (gapFoot t g (.slice A X.length cap)) w w8 := hon.trans (ho8.mono (fun k hk => .inr (.inr hk)))
          obtain ⟨A8, c8, rfl, hc81, hc82, hr8⟩ := hown8.shape eltI
          have f3 := hg8.blk.fz 3
          have c3 := hg8.blk.cell (j := 3) rfl
          have hzl : (List.take i2 (X.take i2 ++ (X.drop i2).map (fun z => z + (n : Int))) ++ feedsF (1 + i) pre ++ List.drop i2 (X.take i2 ++ (X.drop i2).map (fun z => z + (n : Int)))) = feeds (insC cs p pre) := by
            obtain ⟨_, _, _, _, _, hX, hi2, _, _⟩ := HQ.out
            have hpi : p - 1 = i := by have := AA.out; omega
            have hn : n = pre.length := AA.out.2.1
            have hil : (cs.take i).length = i := by have := AA.out; simp; omega
            unfold insC
            rw [hpi, feeds_ins, hil]
            have hsp := feeds_split (cs.take i) (cs.drop i)
            rw [List.take_append_drop, hil, ← hX] at hsp
            have e1 : X.take i2 = feeds (cs.take i) := by rw [hsp, hi2]; simp
            have e2 : X.drop i2 = feedsF (1 + i) (cs.drop i) := by rw [hsp, hi2]; simp
            rw [e1, e2, hn]
            have e3 : i2 = (feeds (cs.take i)).length := hi2
            rw [e3]; simp
          rw [hzl] at hown8 hb8' hnt8
          have HF := Lib.hid (⟨hg8, hon8, hown8, hb8', hnt8, ht1, hr1, hft, hfg⟩ : _ ∧ _ ∧ _ ∧ _ ∧ _ ∧ _ ∧ _ ∧ _ ∧ _)
          rw [hzl]
          clear RR hg1 ht1 hr1 hfd hon hsz hft hfg hKw hnK hXb hb8 ho8 hg8 hon8 hown8 hb8' hnt8 hc81 hc82 hr8 hzl
          go_wp2_with fail
          go_ret
          obtain ⟨hg8, hon8, hown8, hb8', hnt8, ht1, hr1, hft, hfg⟩ := HF.out
          refine ⟨rfl, hon8.setCell (p := ⟨t, 3, none⟩) hft _, g', _, B1, i + pre.length, en', ⟨⟨hg8.blk.set (j := 3) (by simp) _, hg8.buf.kept (Below.heap_setCell _ _ _ _ (fun e => hg8.tg e.symm)), hg8.tg, hg8.lim, hg8.h1, hg8.h2⟩, hown8.kept (fun q hq => Below.heap_setCell _ _ _ _ (hnt8 q hq).1), hnt8, ?_, ?_, ?_⟩, ?_⟩
          · have hpi : p - 1 = i := by have := AA.out; omega
            have htx := HQ.out.2.2.2.1
            rw [ht1, hr1]
            unfold insC
            rw [hpi, List.map_append, List.map_append, List.append_assoc, List.append_assoc]
            have hil : (B6.take i).length = i := by have := hg8.h1; have := hg8.h2; have e := congrArg List.length ht1; simp at e; simp; omega
            have e1 : (cs.map Int.ofNat).take i = B6.take i := by rw [← htx, List.take_append_of_le_length (by omega), List.take_of_length_le (by omega)]
            have e2 : (cs.map Int.ofNat).drop i = B6.drop en' := by rw [← htx, List.drop_append, List.drop_eq_nil_of_le (by omega), hil]; simp
            rw [List.map_take, List.map_drop, e1, e2]
          · intro c hc
            unfold insC at hc
            rw [List.mem_append, List.mem_append] at hc
            rcases hc with (hc | hc) | hc
            · exact H.out.cn c (List.mem_of_mem_take hc)
            · exact AA.out.2.2.2.2.2.2.2.2.2.1 c hc
            · exact H.out.cn c (List.mem_of_mem_drop hc)
          · have := AA.out
            unfold insC
            simp only [List.length_append, List.length_take, List.length_drop]
            omega
          · intro k hk
            rcases hk with rfl | rfl | hk
            · exact .inl hft
            · exact hfg
            · exact hb8' k hk
end
end Go.Proofs.YtcfdalmllegefaaGreatDoor
/- package undo: a change as data; slices.Clone and slices.Reverse at changes. -/
namespace Go.Proofs.YtcfdalmllegefaaGreatDoor
open Go.RowKit Go.Lib
set_option linter.unusedVariables false
set_option linter.unusedSimpArgs false
/-- A change of a text. -/
structure Chg where
  k : Int
  a : Int
  b : Int
  id : Int
  nm : Int
  tx : ByteArray
  vk : Int
  vn : Int
  had : Bool
abbrev encCg (c : Chg) : List Value := [.int .i64 c.k, .int .i64 c.a, .int .i64 c.b, .int .i64 c.id, .int .i64 c.nm, .string c.tx, .int .i64 c.vk, .int .i64 c.vn, .bool c.had]
abbrev chgA (c : Chg) : Array Value := #[.int .i64 c.k, .int .i64 c.a, .int .i64 c.b, .int .i64 c.id, .int .i64 c.nm, .string c.tx, .int .i64 c.vk, .int .i64 c.vn, .bool c.had]
abbrev chgV (c : Chg) : Value := .agg (chgA c)
abbrev chg0 : Chg := ⟨0, 0, 0, 0, 0, ⟨#[]⟩, 0, 0, false⟩
theorem eltCg : Elt encCg 195 239 9 80 (chgV chg0) := ⟨Tryz.underlying195, by kernel_rfl, rfl, by omega, fun _ => rfl, fun x u hu => by simp at hu; rcases hu with rfl | rfl | rfl | rfl | rfl | rfl | rfl | rfl | rfl <;> rfl⟩
section
variable {w w' : World} {A : Option Addr} {zs : List Chg} {B : Nat} {v : Value}
/-- The first i turned round with the last i. -/
def revI (zs : List Chg) (i : Nat) : List Chg := zs.mapIdx fun t c => if t < i ∨ zs.length - i ≤ t then zs.getD (zs.length - 1 - t) chg0 else c
theorem revI_len {zs : List Chg} {i : Nat} : (revI zs i).length = zs.length := by unfold revI; simp
theorem revI_get {zs : List Chg} {i t : Nat} (h : t < zs.length) : (revI zs i)[t]? = some (if t < i ∨ zs.length - i ≤ t then zs.getD (zs.length - 1 - t) chg0 else zs.getD t chg0) := by
  unfold revI
  rw [List.getElem?_mapIdx, List.getElem?_eq_getElem h]
  simp only [Option.map_some, List.getD_eq_getElem?_getD, List.getElem?_eq_getElem h, Option.getD_some]
theorem ext_get {xs ys : List Chg} (hl : xs.length = ys.length) (h : ∀ t, t < xs.length → xs[t]? = ys[t]?) : xs = ys := by
  apply List.ext_getElem?
  intro t
  rcases Nat.lt_or_ge t xs.length with h1 | h1
  · exact h t h1
  · rw [List.getElem?_eq_none h1, List.getElem?_eq_none (by omega)]
theorem getD_get {zs : List Chg} {t : Nat} (h : t < zs.length) : some (zs.getD t chg0) = zs[t]? := by
  rw [List.getD_eq_getElem?_getD, List.getElem?_eq_getElem h]; rfl
theorem revI_zero (zs : List Chg) : revI zs 0 = zs := by
  refine ext_get revI_len fun t ht => ?_
  rw [revI_len] at ht
  rw [revI_get ht, if_neg (by omega), getD_get ht]
theorem revI_end {zs : List Chg} {i : Nat} (h : ¬ 2 * i + 1 < zs.length) : revI zs i = zs.reverse := by
  refine ext_get (by rw [revI_len]; simp) fun t ht => ?_
  rw [revI_len] at ht
  rw [revI_get ht, List.getElem?_reverse ht]
  split
  · exact getD_get (by omega)
  · rw [show zs.length - 1 - t = t by omega, getD_get ht]
theorem revI_step {zs : List Chg} {i q : Nat} {x y : Chg} (h : 2 * i + 1 < zs.length) (hq : zs.length - 1 - i = q) (hx : (revI zs i)[i]? = some x) (hy : (revI zs i)[q]? = some y) : ((revI zs i).set i y).set q x = revI zs (i + 1) := by
  rw [revI_get (by omega), if_neg (by omega)] at hx hy
  refine ext_get (by simp [revI_len]) fun t ht => ?_
  simp only [List.length_set, revI_len] at ht
  rw [revI_get ht]
  by_cases h1 : t = q
  · subst h1
    rw [List.getElem?_set_self (by simp [revI_len]; omega), if_pos (by omega), ← hx, show zs.length - 1 - t = i by omega]
  · rw [List.getElem?_set_ne (fun e => h1 e.symm)]
    by_cases h2 : t = i
    · subst h2
      rw [List.getElem?_set_self (by simp [revI_len]; omega), if_pos (by omega), ← hy, hq]
    · rw [List.getElem?_set_ne (fun e => h2 e.symm), revI_get ht]
      by_cases h3 : t < i ∨ zs.length - i ≤ t
      · rw [if_pos h3, if_pos (by omega)]
      · rw [if_neg h3, if_neg (by omega)]
theorem ROwn.putN {g cap n : Nat} {xs : List Chg} {w : World} (hn : n = xs.length) (h : ROwn encCg 239 9 B w (.slice (some ⟨g, 0, none⟩) n cap) xs) {i j : Nat} {x y : Chg} {u : Value} (hi : xs[i]? = some x) (hj : j < 9) (he : encCg y = (encCg x).set j u) :
    ROwn encCg 239 9 B (w.setCell ⟨g, i * 9 + j, none⟩ u) (.slice (some ⟨g, 0, none⟩) n cap) (xs.set i y) := by
  subst hn; exact ROwn.put eltCg h hi hj he
theorem get_set {xs : List Chg} {i : Nat} {x y : Chg} (h : xs[i]? = some x) : (xs.set i y)[i]? = some y := List.getElem?_set_self (List.getElem?_eq_some_iff.1 h).1
/-- A whole element stored. -/
theorem ROwn.put9 {g cap n : Nat} {xs : List Chg} {w : World} (hn : n = xs.length) (h : ROwn encCg 239 9 B w (.slice (some ⟨g, 0, none⟩) n cap) xs) {i : Nat} {x : Chg} (hi : xs[i]? = some x) (k a b id nm : Int) (tx : ByteArray) (vk vn : Int) (had : Bool) :
    ROwn encCg 239 9 B (((((((((w.setCell ⟨g, i * 9, none⟩ (.int .i64 k)).setCell ⟨g, i * 9 + 1, none⟩ (.int .i64 a)).setCell ⟨g, i * 9 + 2, none⟩ (.int .i64 b)).setCell ⟨g, i * 9 + 3, none⟩ (.int .i64 id)).setCell ⟨g, i * 9 + 4, none⟩ (.int .i64 nm)).setCell ⟨g, i * 9 + 5, none⟩ (.string tx)).setCell ⟨g, i * 9 + 6, none⟩ (.int .i64 vk)).setCell ⟨g, i * 9 + 7, none⟩ (.int .i64 vn)).setCell ⟨g, i * 9 + 8, none⟩ (.bool had)) (.slice (some ⟨g, 0, none⟩) n cap) (xs.set i ⟨k, a, b, id, nm, tx, vk, vn, had⟩) := by
  obtain ⟨xk, xa, xb, xid, xnm, xtx, xvk, xvn, xhd⟩ := x
  have e0 := h.putN hn hi (j := 0) (y := ⟨k, xa, xb, xid, xnm, xtx, xvk, xvn, xhd⟩) (u := .int .i64 k) (by omega) rfl
  have e1 := e0.putN (by simpa using hn) (get_set hi) (j := 1) (y := ⟨k, a, xb, xid, xnm, xtx, xvk, xvn, xhd⟩) (u := .int .i64 a) (by omega) rfl
  rw [List.set_set] at e1
  have e2 := e1.putN (by simpa using hn) (get_set hi) (j := 2) (y := ⟨k, a, b, xid, xnm, xtx, xvk, xvn, xhd⟩) (u := .int .i64 b) (by omega) rfl
  rw [List.set_set] at e2
  have e3 := e2.putN (by simpa using hn) (get_set hi) (j := 3) (y := ⟨k, a, b, id, xnm, xtx, xvk, xvn, xhd⟩) (u := .int .i64 id) (by omega) rfl
  rw [List.set_set] at e3
  have e4 := e3.putN (by simpa using hn) (get_set hi) (j := 4) (y := ⟨k, a, b, id, nm, xtx, xvk, xvn, xhd⟩) (u := .int .i64 nm) (by omega) rfl
  rw [List.set_set] at e4
  have e5 := e4.putN (by simpa using hn) (get_set hi) (j := 5) (y := ⟨k, a, b, id, nm, tx, xvk, xvn, xhd⟩) (u := .string tx) (by omega) rfl
  rw [List.set_set] at e5
  have e6 := e5.putN (by simpa using hn) (get_set hi) (j := 6) (y := ⟨k, a, b, id, nm, tx, vk, xvn, xhd⟩) (u := .int .i64 vk) (by omega) rfl
  rw [List.set_set] at e6
  have e7 := e6.putN (by simpa using hn) (get_set hi) (j := 7) (y := ⟨k, a, b, id, nm, tx, vk, vn, xhd⟩) (u := .int .i64 vn) (by omega) rfl
  rw [List.set_set] at e7
  have e8 := e7.putN (by simpa using hn) (get_set hi) (j := 8) (y := ⟨k, a, b, id, nm, tx, vk, vn, had⟩) (u := .bool had) (by omega) rfl
  rw [List.set_set] at e8
  exact e8
theorem only9 {g o : Nat} {w : World} (v0 v1 v2 v3 v4 v5 v6 v7 v8 : Value) : Only (fun k => k = g) w (((((((((w.setCell ⟨g, o, none⟩ v0).setCell ⟨g, o + 1, none⟩ v1).setCell ⟨g, o + 2, none⟩ v2).setCell ⟨g, o + 3, none⟩ v3).setCell ⟨g, o + 4, none⟩ v4).setCell ⟨g, o + 5, none⟩ v5).setCell ⟨g, o + 6, none⟩ v6).setCell ⟨g, o + 7, none⟩ v7).setCell ⟨g, o + 8, none⟩ v8) :=
  ((((((((Only.setCell (S := fun k => k = g) (p := ⟨g, o, none⟩) (Only.refl _ w) rfl v0).setCell (p := ⟨g, o + 1, none⟩) rfl v1).setCell (p := ⟨g, o + 2, none⟩) rfl v2).setCell (p := ⟨g, o + 3, none⟩) rfl v3).setCell (p := ⟨g, o + 4, none⟩) rfl v4).setCell (p := ⟨g, o + 5, none⟩) rfl v5).setCell (p := ⟨g, o + 6, none⟩) rfl v6).setCell (p := ⟨g, o + 7, none⟩) rfl v7).setCell (p := ⟨g, o + 8, none⟩) rfl v8
end
end Go.Proofs.YtcfdalmllegefaaGreatDoor
