import Derived.Test.YtnbccoelbfgmgaaGreatDoorZ05
import Derived.Test.YtnbccoelbfgmgaaGreatDoorLayG
import Derived.Test.YtnbccoelbfgmgaaGreatDoorZ03
import Derived.Test.YtnbccoelbfgmgaaGreatDoorZ01
import Derived.Lib.OthersKept
/- slices.Insert and slices.BinarySearch at ints, at rows that lie in blocks of their own. -/
namespace Go.Proofs.YtnbccoelbfgmgaaGreatDoor
open Go.RowKit Go.Lib
set_option linter.unusedVariables false
set_option linter.unusedSimpArgs false
section
variable {w w' : World}
abbrev encZ (z : Int) : Value := .int .i64 z
theorem cellsZ (xs : List Int) : cellsL encI xs = xs.map encZ := by
  induction xs with
  | nil => rfl
  | cons x xs ih => rw [cellsL_cons, ih]; rfl
/-- A row of ints, opened. -/
theorem own_open {D : Nat} {v : Value} {xs : List Int} (h : ROwn encI 3 1 D w v xs) :
    (v = .slice none 0 0 ∧ xs = []) ∨ ∃ g cap cl, v = .slice (some ⟨g, 0, none⟩) xs.length cap ∧ D ≤ g ∧ w.heap[g]? = some (.cells (List.toArray cl) 3 (0, 0)) ∧ xs.length ≤ cap ∧ cap ≤ maxLen ∧ cl.length = cap ∧ cl.take xs.length = xs.map encZ := by
  obtain ⟨_, h⟩ := h
  rcases h with ⟨rfl, h0⟩ | ⟨g, cap, cur, rfl, hB, hb, hl, hm, hs, ht⟩
  · exact .inl ⟨rfl, List.eq_nil_of_length_eq_zero h0⟩
  · rw [cellsZ, Nat.mul_one] at ht
    exact .inr ⟨g, cap, cur.toList, rfl, hB, by simpa using hb, hl, hm, by simpa using hs, ht⟩
theorem own_mk {D g cap : Nat} {cl : List Value} {xs : List Int} (hB : D ≤ g) (hb : w.heap[g]? = some (.cells (List.toArray cl) 3 (0, 0))) (hl : xs.length ≤ cap) (hm : cap ≤ maxLen) (hs : cl.length = cap) (ht : cl.take xs.length = xs.map encZ) :
    ROwn encI 3 1 D w (.slice (some ⟨g, 0, none⟩) xs.length cap) xs :=
  ⟨by rw [cellsZ]; simp, .inr ⟨g, cap, _, rfl, hB, hb, hl, hm, by simpa using hs, by rw [cellsZ, Nat.mul_one]; exact ht⟩⟩
theorem cell_list {g : Nat} {E : TypeId} {cl : List Value} (hb : w.heap[g]? = some (.cells cl.toArray E (0, 0))) (j : Nat) : w.cell? ⟨g, j, none⟩ = cl[j]? := by simp [World.cell?, hb]
theorem froz_list {g : Nat} {E : TypeId} {cl : List Value} (hb : w.heap[g]? = some (.cells cl.toArray E (0, 0))) (j : Nat) : w.frozen? ⟨g, j, none⟩ = false := by simp [World.frozen?, hb]
theorem shape_list {g : Nat} {E : TypeId} {cl : List Value} (hb : w.heap[g]? = some (.cells cl.toArray E (0, 0))) : w.shape? g = some (E, cl.length) := by simp [World.shape?, hb]
theorem int_one (xs : List Int) : ∀ v ∈ xs.map encZ, v.oneCell' = true := fun v hv => by obtain ⟨z, _, rfl⟩ := List.mem_map.1 hv; rfl
theorem take_of_take {cl : List Value} {n i : Nat} {vs : List Value} (h : cl.take n = vs) (hi : i ≤ n) : cl.take i = vs.take i := by rw [← h, List.take_take, Nat.min_eq_left hi]
theorem get_of_take {cl : List Value} {n : Nat} {vs : List Value} (h : cl.take n = vs) {j : Nat} {v : Value} (hj : vs[j]? = some v) : cl[j]? = some v := by
  rw [← h, List.getElem?_take] at hj
  split at hj
  · exact hj
  · cases hj
set_option maxHeartbeats 1000000 in
theorem sinsert_none (v : Value) (A A' : Option Addr) (n c i c' : Nat) (hi : i ≤ n) (hn : n ≤ 1000000000) (hv : v = .slice A n c) :
    Calls Tryz.prog 183 #[v, .int .i64 i, .slice A' 0 c'] w fun e w' => e = .returned v ∧ w = w' := by
  subst hv
  go_enter Tryz.func183, Tryz.ntmps183
  go_wp2_with fail
  all_goals
    go_ret
    exact ⟨rfl, rfl⟩
/-- Handed back by Insert. -/
def InsP (w : World) (D : Nat) (v : Value) (zs : List Int) (e : Ending) (w' : World) : Prop :=
  ∃ v', e = .returned v' ∧ ROwn encI 3 1 D w' v' zs ∧ Only (fun k => v.ownBlock = some k) w w' ∧ ∀ k, v'.ownBlock = some k → v.ownBlock = some k ∨ w.heap.size ≤ k
theorem zeroC (n : Nat) : (Builtin.zeroCells (Value.int .i64 0).cells n).toList = List.replicate n (encZ 0) := by
  apply List.ext_getElem
  · simp [Builtin.zeroCells, Value.cells]
  · intro j h1 h2
    simp [Builtin.zeroCells, Value.cells, Nat.mod_one]
theorem get_len {l : List Value} {n : Nat} (hl : l.length = n) {j : Nat} (hj : j < n) : (l[j]?).isSome = true := by rw [List.getElem?_eq_getElem (by omega)]; rfl
set_option maxHeartbeats 1000000 in
theorem sinsert_own {D D' i : Nat} {v u : Value} {xs ys : List Int} (hv : ROwn encI 3 1 D w v xs) (hu : ROwn encI 3 1 D' w u ys) (hne : ∀ g, v.ownBlock = some g → u.ownBlock ≠ some g) (hi : i ≤ xs.length) (hl : xs.length + ys.length ≤ 1000000) (hD : D ≤ w.heap.size) :
    Calls Tryz.prog 183 #[v, .int .i64 i, u] w (InsP w D v (xs.take i ++ ys ++ xs.drop i)) := by
  rcases Nat.eq_zero_or_pos ys.length with h0 | h0
  · obtain rfl := List.eq_nil_of_length_eq_zero h0
    have hx : xs.take i ++ [] ++ xs.drop i = xs := by simp
    rw [hx]
    have : ∃ A' c', u = .slice A' 0 c' := by
      rcases own_open hu with ⟨rfl, _⟩ | ⟨vb, vc, ul, rfl, _⟩
      · exact ⟨_, _, rfl⟩
      · exact ⟨_, _, rfl⟩
    obtain ⟨A', c', rfl⟩ := this
    have hvs : ∃ A c, v = .slice A xs.length c := by
      rcases own_open hv with ⟨rfl, rfl⟩ | ⟨vb, vc, ul, rfl, _⟩
      · exact ⟨_, _, rfl⟩
      · exact ⟨_, _, rfl⟩
    obtain ⟨A, c, hv2⟩ := hvs
    exact (sinsert_none v A A' xs.length c i c' hi (by omega) hv2).mono fun e w' ⟨he, hw⟩ => ⟨v, he, hw ▸ hv, hw ▸ Only.refl _ _, fun k hk => .inl hk⟩
  · rcases own_open hu with ⟨rfl, rfl⟩ | ⟨vb, vc, ul, rfl, _, hub, hul, huc, hus, hut⟩
    · simp at h0
    have hvs : ∀ j x, (ys.map encZ)[j]? = some x → w.cell? ⟨vb, 0 + j, none⟩ = some x := fun j x hj => by rw [Nat.zero_add, cell_list hub]; exact get_of_take hut hj
    have grow : ∀ (base : Option Addr) (c : Nat), v = .slice base xs.length c → c < xs.length + ys.length → xs.length ≤ c → (base = none → xs.length = 0) → (∀ a, base = some a → ∀ j x, (xs.map encZ)[j]? = some x → w.cell? (a.add j) = some x) → i = xs.length →
        Calls Tryz.prog 183 #[v, .int .i64 i, .slice (some ⟨vb, 0, none⟩) ys.length vc] w (InsP w D v (xs.take i ++ ys ++ xs.drop i)) := fun base c hvv hc hnc hb1 hb2 hi2 => by
      subst hi2
      have hm : grownCap w (xs.length + ys.length) c 3 ≤ maxLen := grownCap_le_maxLen _ _ _ _ (by unfold maxLen; omega)
      have hge := grownCap_ge w (xs.length + ys.length) c 3
      rw [hvv]
      refine (Any2.slices_Insert_int_end_grow Tryz.laysInsert base xs.length c vb 0 ys.length vc (xs.map encZ) (ys.map encZ) w h0 hnc hc (by omega) (by simp) (by simp) hb1 hb2 hvs (int_one _)).mono ?_
      rintro e w' ⟨rfl, rfl⟩
      rw [List.take_of_length_le (Nat.le_refl _), List.drop_eq_nil_of_le (Nat.le_refl _), List.append_nil]
      have hlen : (xs ++ ys).length = xs.length + ys.length := by simp
      refine ⟨_, rfl, ?_, (Only.refl _ w).drew.alloc _, fun k hk => .inr (by simp [Value.ownBlock] at hk; omega)⟩
      have := own_mk (w := w.drew.alloc (.cells ((xs.map encZ ++ ys.map encZ).toArray ++ Builtin.zeroCells (Value.int .i64 0).cells (grownCap w (xs.length + ys.length) c 3 - (xs.length + ys.length))) 3)) (D := D) (g := w.heap.size) (cap := grownCap w (xs.length + ys.length) c 3)
        (cl := (xs ++ ys).map encZ ++ List.replicate (grownCap w (xs.length + ys.length) c 3 - (xs.length + ys.length)) (encZ 0)) (xs := xs ++ ys) hD
        (by
          have h1 := (MapKept.heap_alloc w.drew (.cells ((xs.map encZ ++ ys.map encZ).toArray ++ Builtin.zeroCells (Value.int .i64 0).cells (grownCap w (xs.length + ys.length) c 3 - (xs.length + ys.length))) 3)).1
          have e : ((xs ++ ys).map encZ ++ List.replicate (grownCap w (xs.length + ys.length) c 3 - (xs.length + ys.length)) (encZ 0)).toArray = (xs.map encZ ++ ys.map encZ).toArray ++ Builtin.zeroCells (Value.int .i64 0).cells (grownCap w (xs.length + ys.length) c 3 - (xs.length + ys.length)) := by
            rw [← zeroC]; simp
          rw [e]; exact h1)
        (by rw [hlen]; exact hge) hm (by simp; omega) (by rw [List.take_append_of_le_length (by simp), List.take_of_length_le (by simp)])
      rw [hlen] at this
      exact this
    rcases own_open hv with ⟨rfl, rfl⟩ | ⟨g, cap, cl, rfl, hDg, hgb, hgl, hgm, hgs, hgt⟩
    · exact grow none 0 rfl (by simpa using h0) (Nat.le_refl _) (fun _ => rfl) (fun a h => by cases h) (by simpa using hi)
    · have hcs : ∀ j x, (xs.map encZ)[j]? = some x → w.cell? ⟨g, 0 + j, none⟩ = some x := fun j x hj => by rw [Nat.zero_add, cell_list hgb]; exact get_of_take hgt hj
      have hvg : vb ≠ g := fun e => hne g rfl (by rw [← e]; rfl)
      unfold maxLen at hgm
      by_cases hroom : xs.length + ys.length ≤ cap
      · rcases Nat.lt_or_ge i xs.length with h1 | h1
        · refine (Any2.slices_Insert_int_shift Tryz.laysInsert g 0 xs.length cap i vb 0 ys.length vc (xs.map encZ) (ys.map encZ) w h1 h0 hroom (by omega) hvg (by simp) (by simp) hcs
            (fun j hj => by rw [Nat.zero_add, cell_list hgb]; exact get_len hgs (by omega)) (fun j _ => froz_list hgb _) hvs (int_one _) (int_one _) 3 3 ul.length cl.length (shape_list hub) (shape_list hgb) (by omega) (froz_list hub _) (froz_list hub _)).mono ?_
          rintro e w' ⟨rfl, rfl⟩
          have hA := heap_setCells ((xs.map encZ).drop i) (0 + (i + ys.length)) w.drew cl hgb
          have hB := heap_setCells (ys.map encZ) (0 + i) _ _ hA
          refine ⟨_, rfl, ?_, ((Only.refl _ w).drew.trans ((only_setCells _ _ _).mono (fun k hk => by rw [hk]; rfl))).trans ((only_setCells _ _ _).mono (fun k hk => by rw [hk]; rfl)), fun k hk => .inl hk⟩
          have hlen : (xs.take i ++ ys ++ xs.drop i).length = xs.length + ys.length := by simp; omega
          have := own_mk (D := D) (xs := xs.take i ++ ys ++ xs.drop i) (cap := cap) hDg hB (by omega) (by unfold maxLen; omega) (by rw [stL_length, stL_length]; exact hgs) (by
            rw [hlen, stL_eq _ _ _ (by rw [stL_length]; simp; omega), stL_eq _ _ _ (by simp; omega)]
            have t1 : cl.take i = (xs.map encZ).take i := take_of_take hgt (by omega)
            simp only [Nat.zero_add, List.length_map, List.length_drop]
            have e1 : (cl.take (i + ys.length) ++ (xs.map encZ).drop i ++ cl.drop (i + ys.length + (xs.length - i))).take i = (xs.map encZ).take i := by
              rw [List.append_assoc, List.take_append_of_le_length (by simp; omega), List.take_take, Nat.min_eq_left (by omega), t1]
            have e2 : (cl.take (i + ys.length) ++ (xs.map encZ).drop i ++ cl.drop (i + ys.length + (xs.length - i))).drop (i + ys.length) = (xs.map encZ).drop i ++ cl.drop (i + ys.length + (xs.length - i)) := by
              rw [List.append_assoc, List.drop_append, List.drop_eq_nil_of_le (by simp; omega), List.nil_append, List.length_take, Nat.min_eq_left (by omega), Nat.sub_self, List.drop_zero]
            rw [e1, e2, ← List.append_assoc, List.take_append_of_le_length (by simp; omega), List.take_of_length_le (by simp; omega)]
            simp [List.map_take, List.map_drop])
          rw [hlen] at this
          exact this
        · have hie : i = xs.length := by omega
          subst hie
          refine (Any2.slices_Insert_int_end_room Tryz.laysInsert g 0 xs.length cap vb 0 ys.length vc (ys.map encZ) w h0 hroom (by omega) (by simp) (fun j hj => by rw [Nat.zero_add, cell_list hgb]; exact get_len hgs (by omega)) (fun j _ => froz_list hgb _) hvs (int_one _)).mono ?_
          rintro e w' ⟨rfl, rfl⟩
          have hB := heap_setCells (ys.map encZ) (0 + xs.length) w cl hgb
          refine ⟨_, rfl, ?_, (only_setCells _ _ _).mono (fun k hk => by rw [hk]; rfl), fun k hk => .inl hk⟩
          rw [List.take_of_length_le (Nat.le_refl _), List.drop_eq_nil_of_le (Nat.le_refl _), List.append_nil]
          have hlen : (xs ++ ys).length = xs.length + ys.length := by simp
          have := own_mk (D := D) (xs := xs ++ ys) (cap := cap) hDg hB (by omega) (by unfold maxLen; omega) (by rw [stL_length]; exact hgs) (by
            rw [hlen, stL_eq _ _ _ (by simp; omega), Nat.zero_add, hgt, List.take_append_of_le_length (by simp), List.take_of_length_le (by simp)]; simp)
          rw [hlen] at this
          exact this
      · rcases Nat.lt_or_ge i xs.length with h1 | h1
        · refine (Any2.slices_Insert_int_grow Tryz.laysInsert g 0 xs.length cap i vb 0 ys.length vc (xs.map encZ) (ys.map encZ) w h1 h0 hgl (by omega) (by omega) (by simp) (by simp) hcs hvs (int_one _) (int_one _)).mono ?_
          rintro e w' ⟨rfl, rfl⟩
          have hm : grownCap w (xs.length + ys.length) cap 3 ≤ maxLen := grownCap_le_maxLen _ _ _ _ (by unfold maxLen; omega)
          have hge := grownCap_ge w (xs.length + ys.length) cap 3
          obtain ⟨GC, hGC⟩ : ∃ GC, GC = grownCap w (xs.length + ys.length) cap 3 := ⟨_, rfl⟩
          have hGC2 : grownCap w (xs.length + ys.length) cap (Tryz.laysInsert_ren.t 3) = GC := hGC.symm
          rw [hGC2]
          rw [← hGC] at hm hge
          have hlen : (xs.take i ++ ys ++ xs.drop i).length = xs.length + ys.length := by simp; omega
          have h1' := (MapKept.heap_alloc w (.cells (((xs.map encZ).take i).toArray ++ Builtin.zeroCells (Value.int .i64 0).cells (xs.length + ys.length - i) ++ Builtin.zeroCells (Value.int .i64 0).cells (GC - (xs.length + ys.length))) (Tryz.laysInsert_ren.t 3))).1
          have e : ((xs.map encZ).take i).toArray ++ Builtin.zeroCells (Value.int .i64 0).cells (xs.length + ys.length - i) ++ Builtin.zeroCells (Value.int .i64 0).cells (GC - (xs.length + ys.length)) = ((xs.map encZ).take i ++ List.replicate (GC - i) (encZ 0)).toArray := by
            apply Array.toList_inj.1
            simp only [Array.toList_append, zeroC]
            rw [List.append_assoc, List.replicate_append_replicate]
            congr 2; omega
          rw [e] at h1' ⊢
          have hA := heap_setCells (ys.map encZ) i _ _ (show (w.alloc (.cells ((xs.map encZ).take i ++ List.replicate (GC - i) (encZ 0)).toArray (Tryz.laysInsert_ren.t 3))).drew.heap[w.heap.size]? = some (.cells ((xs.map encZ).take i ++ List.replicate (GC - i) (encZ 0)).toArray 3 (0, 0)) from h1')
          have hB := heap_setCells ((xs.map encZ).drop i) (i + ys.length) (((w.alloc (.cells ((xs.map encZ).take i ++ List.replicate (GC - i) (encZ 0)).toArray (Tryz.laysInsert_ren.t 3))).drew.setCells w.heap.size i (ys.map encZ)).drew) _ hA
          refine ⟨_, rfl, ?_, ?_, fun k hk => .inr (by simp [Value.ownBlock] at hk; omega)⟩
          · have := own_mk (D := D) (xs := xs.take i ++ ys ++ xs.drop i) (cap := GC) hD hB (by omega) hm (by rw [stL_length, stL_length]; simp; omega) (by
              rw [hlen, stL_eq _ _ _ (by rw [stL_length]; simp; omega), stL_eq _ _ _ (by simp; omega)]
              have l1 : ((xs.map encZ).take i).length = i := by simp; omega
              have e1 : ((xs.map encZ).take i ++ List.replicate (GC - i) (encZ 0)).take i = (xs.map encZ).take i := by rw [List.take_append_of_le_length (by omega), List.take_of_length_le (by omega)]
              rw [e1]
              have l2 : ((xs.map encZ).take i ++ ys.map encZ).length = i + ys.length := by simp; omega
              have e2 : ∀ Z : List Value, ((xs.map encZ).take i ++ ys.map encZ ++ Z).take (i + ys.length) = (xs.map encZ).take i ++ ys.map encZ := fun Z => by
                rw [List.take_append_of_le_length (by omega), List.take_of_length_le (by omega)]
              rw [e2, List.take_append_of_le_length (by simp; omega), List.take_of_length_le (by simp; omega)]
              simp [List.map_take, List.map_drop])
            rw [hlen] at this
            exact this
          · exact (((((Only.refl _ w).alloc _).drew).then (only_setCells _ _ _) (fun k hk hlt => by omega)).drew).then (only_setCells _ _ _) (fun k hk hlt => by omega)
        · exact grow (some ⟨g, 0, none⟩) cap rfl (by omega) hgl (fun h => by cases h) (fun a h j x hj => by cases h; rw [Addr.add_lit]; exact hcs j x hj) (by omega)
theorem bsearch_own {D : Nat} {v : Value} {xs : List Int} (hv : ROwn encI 3 1 D w v xs) (hs : xs.Pairwise (· ≤ ·)) (hl : xs.length ≤ 1000000) (x : Int) :
    Calls Tryz.prog 182 #[v, .int .i64 x] w fun e w' => e = .returned (.tuple #[.int .i64 (xs.countP (· < x) : Nat), .bool (xs.contains x)]) ∧ Below w.heap.size w w' := by
  rcases own_open hv with ⟨rfl, rfl⟩ | ⟨g, cap, cl, rfl, hDg, hgb, hgl, hgm, hgs, hgt⟩
  · exact (bsearch_nil x).mono fun e w' ⟨he, hw⟩ => ⟨by rw [he]; rfl, hw ▸ Below.refl _ _⟩
  · have := Any.slices_BinarySearch_int Tryz.laysSearch g 0 xs.length cap xs x w (Nat.le_refl _) (by omega) (fun j hj => by
      rw [Nat.zero_add, cell_list hgb]; exact get_of_take hgt (by simp [List.getElem?_map, List.getElem?_eq_getElem hj, List.getD_eq_getElem?_getD])) (by rw [List.take_of_length_le (Nat.le_refl _)]; exact hs)
    rw [List.take_of_length_le (Nat.le_refl _)] at this
    refine this.mono ?_
    rintro e w' ⟨rfl, q, rfl⟩
    exact ⟨rfl, below_drewN (Below.refl _ _) _⟩
end
end Go.Proofs.YtnbccoelbfgmgaaGreatDoor
/- The positions of line feeds: plain laws. -/
namespace Go.Proofs.YtnbccoelbfgmgaaGreatDoor
set_option linter.unusedVariables false
set_option linter.unusedSimpArgs false
/-- The positions of line feeds, the first character being at k. -/
def feedsF : Nat → List Nat → List Int
  | _, [] => []
  | k, c :: cs => if c = 10 then (k : Int) :: feedsF (k + 1) cs else feedsF (k + 1) cs
def feeds (cs : List Nat) : List Int := feedsF 1 cs
theorem feedsF_append : ∀ (a b : List Nat) (k : Nat), feedsF k (a ++ b) = feedsF k a ++ feedsF (k + a.length) b
  | [], b, k => rfl
  | c :: a, b, k => by
    simp only [List.cons_append, feedsF, feedsF_append a b (k + 1), List.length_cons, show k + 1 + a.length = k + (a.length + 1) by omega]
    split <;> rfl
theorem feedsF_shift : ∀ (cs : List Nat) (k n : Nat), feedsF (k + n) cs = (feedsF k cs).map (fun z => z + (n : Int))
  | [], k, n => rfl
  | c :: cs, k, n => by
    simp only [feedsF, show k + n + 1 = (k + 1) + n by omega, feedsF_shift cs (k + 1) n]
    split
    · rw [List.map_cons]; simp
    · rfl
theorem feedsF_mem : ∀ (cs : List Nat) (k : Nat) (z : Int), z ∈ feedsF k cs → (k : Int) ≤ z ∧ z < (k : Int) + cs.length
  | [], k, z, h => by simp [feedsF] at h
  | c :: cs, k, z, h => by
    simp only [feedsF] at h
    rw [List.length_cons]
    split at h
    · rcases List.mem_cons.1 h with rfl | h
      · omega
      · have := feedsF_mem cs (k + 1) z h; omega
    · have := feedsF_mem cs (k + 1) z h; omega
theorem feedsF_sorted : ∀ (cs : List Nat) (k : Nat), (feedsF k cs).Pairwise (· < ·)
  | [], k => List.Pairwise.nil
  | c :: cs, k => by
    simp only [feedsF]
    split
    · exact List.pairwise_cons.2 ⟨fun z hz => by have := (feedsF_mem cs (k + 1) z hz).1; omega, feedsF_sorted cs (k + 1)⟩
    · exact feedsF_sorted cs (k + 1)
theorem feedsF_len : ∀ (cs : List Nat) (k : Nat), (feedsF k cs).length ≤ cs.length
  | [], k => Nat.le_refl _
  | c :: cs, k => by
    simp only [feedsF, List.length_cons]
    have := feedsF_len cs (k + 1)
    split
    · rw [List.length_cons]; omega
    · omega
/-- Where a position stands among the feeds. -/
theorem feeds_count (a b : List Nat) (at_ : Int) (h : at_ = a.length + 1) : (feeds (a ++ b)).countP (· < at_) = (feeds a).length := by
  unfold feeds
  rw [feedsF_append, List.countP_append, List.countP_eq_length.2, List.countP_eq_zero.2]
  · rfl
  · intro z hz
    have := feedsF_mem b (1 + a.length) z hz
    simp; omega
  · intro z hz
    have := feedsF_mem a 1 z hz
    simp; omega
theorem feeds_ins (a m b : List Nat) : feeds (a ++ m ++ b) = feeds a ++ feedsF (1 + a.length) m ++ (feedsF (1 + a.length) b).map (fun z => z + (m.length : Int)) := by
  unfold feeds
  rw [feedsF_append, feedsF_append, List.length_append, ← Nat.add_assoc, feedsF_shift b (1 + a.length) m.length]
theorem feeds_split (a b : List Nat) : feeds (a ++ b) = feeds a ++ feedsF (1 + a.length) b := feedsF_append a b 1
theorem feeds_del (a m b : List Nat) : feeds (a ++ b) = feeds a ++ (feedsF (1 + a.length + m.length) b).map (fun z => z - (m.length : Int)) := by
  rw [feeds_split, feedsF_shift b (1 + a.length) m.length, List.map_map]
  congr 1
  conv => lhs; rw [← List.map_id (feedsF (1 + a.length) b)]
  exact List.map_congr_left fun z _ => by simp [Function.comp]
theorem feedsF_snoc (cs : List Nat) (c k : Nat) : feedsF k (cs ++ [c]) = feedsF k cs ++ (if c = 10 then [((k + cs.length : Nat) : Int)] else []) := by
  rw [feedsF_append]
  simp only [feedsF]
end Go.Proofs.YtnbccoelbfgmgaaGreatDoor
/- package gap: the whole of a text's memory; Insert, any text. -/
namespace Go.Proofs.YtnbccoelbfgmgaaGreatDoor
open Go.RowKit Go.Lib
set_option linter.unusedVariables false
set_option linter.unusedSimpArgs false
/-- The blocks of a text. -/
def gapFoot (t g : Nat) (fv : Value) (k : Nat) : Prop := k = t ∨ k = g ∨ fv.ownBlock = some k
structure GapX (w : World) (t g : Nat) (fv : Value) (B : List Int) (st en : Nat) (cs : List Nat) : Prop where
  gw : GapW w t g B st en fv
  own : ROwn encI 3 1 0 w fv (feeds cs)
  nf : ∀ k, fv.ownBlock = some k → k ≠ t ∧ k ≠ g
  txt : B.take st ++ B.drop en = cs.map Int.ofNat
  cn : ∀ c ∈ cs, isN c
  le : cs.length ≤ 65536
section
variable {w w' : World} {t g st en : Nat} {fv : Value} {B : List Int} {cs : List Nat}
theorem GapX.r (h : GapX w t g fv B st en cs) : GapR w t g cs := by
  obtain ⟨c, hc, h0⟩ := h.gw.c0
  exact ⟨B, c, st, en, ⟨h0, h.gw.c1, h.gw.c2, hc, by have := h.gw.lim; omega, h.gw.ltG, fun i z hz => h.gw.at_ hz, h.gw.h1, h.gw.h2, h.txt, fun c hc => h.cn c hc⟩⟩
theorem GapX.foot_lt (h : GapX w t g fv B st en cs) {k : Nat} (hk : gapFoot t g fv k) : k < w.heap.size := by
  rcases hk with rfl | rfl | hk
  · exact h.gw.ltT
  · exact h.gw.ltG
  · exact h.own.lt hk
theorem GapX.only {S : Nat → Prop} (h : GapX w t g fv B st en cs) (ho : Only S w w') (hd : ∀ k, gapFoot t g fv k → ¬ S k) : GapX w' t g fv B st en cs :=
  ⟨h.gw.only ho (hd t (.inl rfl)) (hd g (.inr (.inl rfl))), h.own.kept (fun k hk => ho.block k (h.own.lt hk) (hd k (.inr (.inr hk)))), h.nf, h.txt, h.cn, h.le⟩
theorem GapX.up (h : GapX w t g fv B st en cs) (hb : Below w.heap.size w w') : GapX w' t g fv B st en cs := ⟨h.gw.up hb, h.own.up hb, h.nf, h.txt, h.cn, h.le⟩
theorem GapX.len (h : GapX w t g fv B st en cs) : cs.length + (en - st) = B.length := by
  have e := congrArg List.length h.txt
  have := h.gw.h1; have := h.gw.h2
  simp only [List.length_append, List.length_take, List.length_drop, List.length_map] at e
  omega
theorem ggrow_any {n : Nat} (h : GapW w t g B st en fv) (hn2 : n ≤ 65536) (hsz : B.length - (en - st) + n ≤ 65536) :
    Calls Tryz.prog 181 #[.pointer (some ⟨t, 0, none⟩), .int .i64 n] w fun e w' => e = .returned (.tuple #[]) ∧ Only (fun k => k = t) w w' ∧ ∃ g' B' en', (g' = g ∨ w.heap.size ≤ g') ∧ GapW w' t g' B' st en' fv ∧ n ≤ en' - st ∧ B'.take st = B.take st ∧ B'.drop en' = B.drop en := by
  by_cases hn : n ≤ en - st
  · exact (ggrow_no h hn).mono fun e w' ⟨he, hb⟩ => ⟨he, Only.of_below hb, g, B, en, .inl rfl, h.up hb, hn, rfl, rfl⟩
  · refine (ggrow_yes h (by omega) hn2 hsz).mono ?_
    rintro e w' ⟨he, ho, g', B', en', h1, h2, h3, h4, h5⟩
    exact ⟨he, ho, g', B', en', .inr h1, h2, h3, h4, h5⟩
end
/-- A text with m put in at p. -/
def insC (cs : List Nat) (p : Nat) (m : List Nat) : List Nat := cs.take (p - 1) ++ m ++ cs.drop (p - 1)
/-- What an edit of a text turns. -/
def GapTo (w : World) (t g : Nat) (fv : Value) (cs : List Nat) (w' : World) : Prop :=
  Only (gapFoot t g fv) w w' ∧ ∃ g' fv' B' st' en', GapX w' t g' fv' B' st' en' cs ∧ ∀ k, gapFoot t g' fv' k → gapFoot t g fv k ∨ w.heap.size ≤ k
/-- The first feeds moved: those from i on up to j, by n. -/
def bump (xs : List Int) (i j : Nat) (n : Int) : List Int := xs.take i ++ ((xs.drop i).take (j - i)).map (fun z => z + n) ++ xs.drop j
theorem bump_start (xs : List Int) (i : Nat) (n : Int) : bump xs i i n = xs := by simp [bump]
theorem bump_len {xs : List Int} {i j : Nat} (n : Int) (h1 : i ≤ j) (h2 : j ≤ xs.length) : (bump xs i j n).length = xs.length := by
  simp only [bump, List.length_append, List.length_map, List.length_take, List.length_drop]; omega
theorem bump_get {xs : List Int} {i j : Nat} (n : Int) (h1 : i ≤ j) (h2 : j < xs.length) : (bump xs i j n)[j]? = some xs[j] := by
  unfold bump
  rw [List.getElem?_append_right (by simp; omega)]
  have e : (xs.take i ++ ((xs.drop i).take (j - i)).map (fun z => z + n)).length = j := by simp; omega
  rw [e, Nat.sub_self, List.getElem?_drop]; simp [h2]
theorem bump_step {xs : List Int} {i j : Nat} (n : Int) (h1 : i ≤ j) (h2 : j < xs.length) : (bump xs i j n).set j (xs[j] + n) = bump xs i (j + 1) n := by
  unfold bump
  have e : (xs.take i ++ ((xs.drop i).take (j - i)).map (fun z => z + n)).length = j := by simp; omega
  rw [List.set_append_right _ _ (by omega), e, Nat.sub_self]
  have e2 : xs.drop j = xs[j] :: xs.drop (j + 1) := List.drop_eq_getElem_cons h2
  rw [e2, List.set_cons_zero]
  have e3 : (xs.drop i).take (j + 1 - i) = (xs.drop i).take (j - i) ++ [xs[j]] := by
    rw [show j + 1 - i = (j - i) + 1 by omega, List.take_succ_eq_append_getElem (by simp; omega)]
    congr 2; simp; congr 1; omega
  rw [e3, List.map_append, List.append_assoc, List.append_assoc, List.append_assoc]
  simp
theorem bump_end {xs : List Int} {i : Nat} (n : Int) : bump xs i xs.length n = xs.take i ++ (xs.drop i).map (fun z => z + n) := by
  unfold bump
  have e : (xs.drop i).take (xs.length - i) = xs.drop i := List.take_of_length_le (by simp)
  rw [e, List.drop_length]; simp
end Go.Proofs.YtnbccoelbfgmgaaGreatDoor
/- gap.Insert at a fresh text. -/
namespace Go.Proofs.YtnbccoelbfgmgaaGreatDoor
open Go.RowKit
set_option linter.unusedVariables false
set_option linter.unusedSimpArgs false
/-- A mark at which a walk stands still. -/
def Mk (p : Prop) : Prop := p
theorem mk_in {p : Prop} (h : Mk p) : p := h
section
variable {w w' : World} {t g : Nat}
set_option maxHeartbeats 1000000 in
theorem gnone0 {cs : Array Value} {L cap : Nat} (h : Blk w t 164 cs) (hc : cs[0]? = some (.slice (some ⟨g, 0, none⟩) L cap)) : Calls Tryz.prog 109 #[.pointer (some ⟨t, 0, none⟩)] w fun e w' => e = .returned (.bool false) ∧ w = w' := by
  have c0 := h.cell hc
  have hn := Lib.run_eql_slice_nil (P := Tryz.prog) w 162 21 (some ⟨g, 0, none⟩) L cap 0 0 Tryz.underlying162
  clear h hc
  go_enter Tryz.func109, Tryz.ntmps109
  go_wp2_with fail
  go_ret
  exact ⟨rfl, rfl⟩
set_option maxHeartbeats 1000000 in
theorem gsize0 (f : Value) (h : Blk w t 164 (txtC g 0 0 0 0 f)) : Calls Tryz.prog 61 #[.pointer (some ⟨t, 0, none⟩)] w fun e w' => e = .returned (.int .i64 0) ∧ Below w.heap.size w w' := by
  have HN := Lib.hid (gnone0 h rfl)
  have c0 := h.cell (j := 0) rfl
  have c1 := h.cell (j := 1) rfl
  have c2 := h.cell (j := 2) rfl
  clear h
  go_enter Tryz.func61, Tryz.ntmps61
  go_wp2_with fail
  refine HN.out.mono ?_
  rintro e w' ⟨rfl, rfl⟩
  go_wp2_with fail
  go_region
  go_wp2_with fail
  go_ret
  exact ⟨rfl, (Below.refl _ w).drew⟩
/-- One character more. -/
theorem ins_rel {w W : World} {t G K n p' : Nat} {s : ByteArray} {cs pre rest' : List Nat} {c : Nat} {v : Value} {Z : Array Value} (hp : p' ≤ s.size) (hcs : cs = pre ++ c :: rest') (hr : charsD (s.data.toList.drop p') = some rest') (hit : W.heap[K]? = some (.stringIter s p'))
    (hbt : Blk W t 164 (txtC G (n + 16) (n + 16) pre.length (n + 16) (.slice none 0 0))) (hZ : Blk W G 21 Z) (hZl : Z.toList = (pre.map fun c : Nat => Value.int .i32 c) ++ List.replicate (n + 16 - pre.length) (.int .i32 0)) (hl : pre.length < n)
    (hown : ROwn encI 3 1 (K + 1) W v (feeds (pre ++ [c]))) (ho : Only (fun k => k = t) w W) (hs : K + 1 ≤ W.heap.size) (h1 : t < w.heap.size) (h2 : w.heap.size ≤ G) (h3 : G < K) (h4 : w.heap.size ≤ K) :
    ∃ (p : Nat) (pre' rest : List Nat), p ≤ s.size ∧ cs = pre' ++ rest ∧ charsD (s.data.toList.drop p) = some rest ∧ (((W.setCell ⟨G, pre.length, none⟩ (.int .i32 c)).setCell ⟨t, 1, none⟩ (.int .i64 ((pre.length : Int) + 1))).drew).heap[K]? = some (.stringIter s p) ∧
      Blk (((W.setCell ⟨G, pre.length, none⟩ (.int .i32 c)).setCell ⟨t, 1, none⟩ (.int .i64 ((pre.length : Int) + 1))).drew) t 164 (txtC G (n + 16) (n + 16) pre'.length (n + 16) (.slice none 0 0)) ∧
      (∃ Z : Array Value, Blk (((W.setCell ⟨G, pre.length, none⟩ (.int .i32 c)).setCell ⟨t, 1, none⟩ (.int .i64 ((pre.length : Int) + 1))).drew) G 21 Z ∧ Z.toList = (pre'.map fun c : Nat => Value.int .i32 c) ++ List.replicate (n + 16 - pre'.length) (.int .i32 0)) ∧
      ROwn encI 3 1 (K + 1) (((W.setCell ⟨G, pre.length, none⟩ (.int .i32 c)).setCell ⟨t, 1, none⟩ (.int .i64 ((pre.length : Int) + 1))).drew) v (feeds pre') ∧ Only (fun k => k = t) w (((W.setCell ⟨G, pre.length, none⟩ (.int .i32 c)).setCell ⟨t, 1, none⟩ (.int .i64 ((pre.length : Int) + 1))).drew) ∧
      K + 1 ≤ (((W.setCell ⟨G, pre.length, none⟩ (.int .i32 c)).setCell ⟨t, 1, none⟩ (.int .i64 ((pre.length : Int) + 1))).drew).heap.size := by
  have hk : ∀ j, j ≠ G → j ≠ t → (((W.setCell ⟨G, pre.length, none⟩ (.int .i32 c)).setCell ⟨t, 1, none⟩ (.int .i64 ((pre.length : Int) + 1))).drew).heap[j]? = W.heap[j]? := fun j hG ht =>
    (Below.heap_setCell _ ⟨t, 1, none⟩ _ _ ht).trans (Below.heap_setCell _ ⟨G, pre.length, none⟩ _ _ hG)
  have hZs : Z.size = n + 16 := by
    have := congrArg List.length hZl
    simp at this
    omega
  refine ⟨p', pre ++ [c], rest', hp, by rw [hcs, List.append_assoc]; rfl, hr, (hk K (by omega) (by omega)).trans hit, ?_, ?_, hown.kept (fun g hg => hk g (by have := hown.base hg; omega) (by have := hown.base hg; omega)), ?_, ?_⟩
  · have := (hbt.kept (w' := W.setCell ⟨G, pre.length, none⟩ (.int .i32 c)) (Below.heap_setCell _ _ _ _ (show t ≠ G by omega))).set (j := 1) (by simp) (.int .i64 ((pre.length : Int) + 1))
    have e : ((pre ++ [c]).length : Int) = (pre.length : Int) + 1 := by simp
    unfold txtC
    rw [e]
    exact this
  · refine ⟨_, (hZ.set (j := pre.length) (by omega) (.int .i32 c)).kept (Below.heap_setCell _ ⟨t, 1, none⟩ _ _ (show G ≠ t by omega)), ?_⟩
    rw [Array.toList_set, hZl, List.map_append, List.length_append, List.set_append_right _ _ (by simp)]
    have e : n + 16 - pre.length = (n + 16 - (pre.length + 1)) + 1 := by omega
    simp [e, List.replicate_succ]
  · exact ho.then (T := fun k => k = G ∨ k = t) ⟨rfl, rfl, rfl, by simp, fun j _ hj => hk j (fun e => hj (.inl e)) (fun e => hj (.inr e))⟩ (fun j hj hj2 => by rcases hj with h | h <;> omega)
  · show K + 1 ≤ ((W.setCell ⟨G, pre.length, none⟩ (.int .i32 c)).setCell ⟨t, 1, none⟩ (.int .i64 ((pre.length : Int) + 1))).heap.size
    simp; exact hs
set_option maxRecDepth 100000 in
set_option maxHeartbeats 2000000 in
theorem ginsert0 {N : Nat} (hT : Tabs N w) (s : ByteArray) (hs : s.size ≤ 10000) (hv : (charsD s.data.toList).isSome = true) (h : Blk w t 164 (txtC g 0 0 0 0 (.slice none 0 0))) (hNt : N ≤ t) (h0 : 0 < (chrs s).length) :
    Calls Tryz.prog 124 #[.pointer (some ⟨t, 0, none⟩), .int .i64 1, .string s] w fun e w' => e = .returned (.int .i64 0) ∧ Only (fun k => k = t) w w' ∧ ∃ g', w.heap.size ≤ g' ∧ GapR w' t g' (chrs s) := by
  have hn := chrs_len s
  have HL := rlenG_chars hv
  have HI := chrs_isN s
  obtain ⟨cs, hcs⟩ := Option.isSome_iff_exists.1 hv
  have hcc : chrs s = cs := by unfold chrs; rw [hcs]; rfl
  rw [hcc] at hn HL HI h0 ⊢
  have hvl : vld s = true := by rw [vld_chars]; exact hv
  obtain ⟨n, hnn⟩ : ∃ n, n = cs.length := ⟨_, rfl⟩
  have HCS := Lib.hid hcs
  have HII := Lib.hid HI
  have H := Lib.hid h
  have HT := Lib.hid hT
  have HN := Lib.hid (gnone0 h rfl)
  have ht := h.lt
  have HNN := Lib.hid hnn
  rw [← hnn] at HL hn h0
  clear hv hcc hcs HI h hT hnn
  go_enter Tryz.func124, Tryz.ntmps124
  go_wp2_with fail
  refine HN.out.mono ?_
  rintro e w' ⟨rfl, rfl⟩
  go_wp2_with fail
  refine (gsize0 _ H.out).mono ?_
  rintro e w1 ⟨rfl, hb1⟩
  have H1 := Lib.hid (H.out.up hb1)
  have HT1 := Lib.hid (HT.out.up hb1)
  have hV := valid_any s w1 (by omega) HT1.out
  rw [hvl] at hV
  go_wp2_with fail
  refine hV.mono ?_
  rintro e w2 ⟨rfl, hb2⟩
  have H2 := Lib.hid (H1.out.up hb2)
  have HT2 := Lib.hid (HT1.out.up hb2)
  clear hV
  go_wp2_with fail
  have hLn := runesLen s w2 (by omega) HT2.out
  rw [HL] at hLn
  refine hLn.mono ?_
  rintro e w3 ⟨rfl, hb3⟩
  have H3 := Lib.hid (H2.out.up hb3)
  have HB3 := Lib.hid (up2 hb1 (up2 hb2 hb3))
  clear hLn hb1 hb2 hb3 H1 H2 HT1 HT2
  go_wp2_with fail
  refine (gsize0 _ H3.out).mono ?_
  rintro e w4 ⟨rfl, hb4⟩
  have H4 := Lib.hid (H3.out.up hb4)
  have HB4 := Lib.hid (up2 HB3.out hb4)
  have d1 : decide ((65536 : Int) < (n : Int)) = false := decide_eq_false (by omega)
  clear hb4 HB3 H3
  go_wp2_with fail
  refine (gmove0 _ H4.out).mono ?_
  rintro e w5 ⟨rfl, ho5, hk5⟩
  have H5 := Lib.hid hk5
  have HO5 := Lib.hid ho5
  clear hk5 ho5 H4
  go_wp2_with fail
  refine (ggrow0 _ n (by omega) H5.out h0).mono ?_
  rintro e w6 ⟨rfl, ho6, hk6, hs6, hg6⟩
  have H6 := Lib.hid hk6
  have HG6 := Lib.hid hg6
  have HO6 := Lib.hid ((Only.of_below HB4.out : Only (fun k => k = t) w w4).trans (HO5.out.trans ho6))
  have hge : w.heap.size ≤ w5.heap.size := Nat.le_trans HB4.out.size HO5.out.size
  generalize w5.heap.size = G at *
  have f3 := hk6.cell (j := 3) rfl
  clear hk6 hg6 ho6 H5 HO5 HB4 hs6
  go_wp2_with fail
  refine (bsearch_nil 1).mono ?_
  rintro e w7 ⟨rfl, rfl⟩
  go_wp2_with fail
  go_loopw [10] (fun va wr => va = .int .i64 0 ∧ w6 = wr) (fun _ _ => 0)
  case atStart => exact ⟨rfl, rfl⟩
  case round =>
    obtain ⟨rfl, rfl⟩ := hrel
    go_wp2_with fail
    clear f3
    have hit := w6.iter_heap s 0
    have hsz : (w6.iter s 0).heap.size = w6.heap.size + 1 := by simp [World.iter]
    have HBi := Lib.hid (show Below w6.heap.size w6 (w6.iter s 0) from below1 w6 _)
    generalize w6.iter s 0 = W at *
    go_loopw [11, 13] (fun va vb wr => ∃ (p : Nat) (pre rest : List Nat), p ≤ s.size ∧ cs = pre ++ rest ∧ charsD (s.data.toList.drop p) = some rest ∧ wr.heap[w6.heap.size]? = some (.stringIter s p) ∧
      Blk wr t 164 (txtC G (n + 16) (n + 16) pre.length (n + 16) (.slice none 0 0)) ∧ (∃ Z : Array Value, Blk wr G 21 Z ∧ Z.toList = (pre.map fun c : Nat => Value.int .i32 c) ++ List.replicate (n + 16 - pre.length) (.int .i32 0)) ∧
      ROwn encI 3 1 (w6.heap.size + 1) wr va (feeds pre) ∧ Only (fun k => k = t) w wr ∧ w6.heap.size + 1 ≤ wr.heap.size) (fun _ _ wr => s.size - wr.iterPos w6.heap.size)
    case atStart =>
      refine ⟨0, [], cs, Nat.zero_le _, rfl, by simpa using HCS.out, hit, H6.out.up HBi.out, ⟨_, HG6.out.up HBi.out, by simp⟩, ROwn.nil _ _, HO6.out.trans (Only.of_below HBi.out), by omega⟩
    case round =>
      obtain ⟨p, pre, rest, hp, hcs, hrest, hit, hbt, ⟨Z, hZ, hZl⟩, hown, honly, hsz2⟩ := hrel

      have hGt : G ≠ t := by omega
      have hGK : G < w6.heap.size := HG6.out.lt
      have htK : t < w6.heap.size := H6.out.lt
      have hwK : w.heap.size ≤ w6.heap.size := HO6.out.size
      generalize w6.heap.size = K at *
      have hle : pre.length + rest.length = n := by rw [HNN.out, hcs, List.length_append]
      by_cases hlt : p < s.size
      · obtain ⟨c, rest', hrc, hd1, hd2, hd3, hd4, hc⟩ := decode_step hlt hrest
        subst hrc
        have hnx := fun ty => Lib.run_next_any_at (P := Tryz.prog) wr K s p ty hit hlt
        rw [hd1] at hnx
        have hit1 := Lib.iterAt_heap wr K s p (p + (Utf8.decode s p).2) hit
        have hoth := fun j (hj : j ≠ K) => Lib.iterAt_other wr K j s (p + (Utf8.decode s p).2) hj
        have hsz1 := Lib.iterAt_size wr K s (p + (Utf8.decode s p).2)
        have hon1 : Only (fun k => k = t) w (wr.iterAt K s (p + (Utf8.decode s p).2)) := honly.then (T := fun k => k = K) ⟨rfl, rfl, rfl, by rw [hsz1]; exact Nat.le_refl _, fun j _ hj => hoth j hj⟩ (fun j hj hj2 => by omega)
        have hip : (wr.iterPos K) = p := iterPos_of hit
        rw [hip]
        have hpp : p < p + (Utf8.decode s p).2 := by omega
        clear hd1 hd2
        generalize p + (Utf8.decode s p).2 = p' at *
        generalize wr.iterAt K s p' = w1 at *
        have hbt1 := hbt.kept (hoth t (by omega))
        have hZ1 := hZ.kept (hoth G (by omega))
        have hown1 := hown.kept (fun g hg => hoth g (by have := hown.base hg; omega))
        have hsz1' : K + 1 ≤ w1.heap.size := by rw [hsz1]; exact hsz2
        clear hsz1
        simp only [List.length_cons] at hle
        have c0 := hbt1.cell (j := 0) rfl
        have c1 := hbt1.cell (j := 1) rfl
        have HNX := Lib.hid hnx
        by_cases h10 : c = 10
        · have d10 : ((c : Int) == (10 : Int)) = true := by simp [h10]
          have s1 : IntKind.i64.wrap ((pre.length : Int) + 1) = (pre.length : Int) + 1 := IntWalk.i64_in _ (by omega)
          obtain ⟨v', w2, happ, hown2, hb2, hon2, _⟩ := append_elem eltI hown1 hsz1' ((pre.length : Int) + 1) (by have := feedsF_len pre 1; unfold feeds; omega) (by omega)
          have HP : Hid (∀ ty, (Builtin.append_ #[53, 53] ty #[u11, .slice (some ⟨w1.heap.size, 0, none⟩) 1 1]).run Tryz.prog (w1.alloc (.cells #[.int .i64 ((pre.length : Int) + 1)] 3)) = .ok v' w2) := Lib.hid happ
          clear happ
          go_wp2_with (at_builtin; refine wpList_app_run (v := u11) (u := .slice (some ⟨w1.heap.size, 0, none⟩) 1 1) rfl _ _ _ rfl rfl rfl HP.out ?_)
          have hit2 := (hb2.block K (by omega)).trans hit1
          have hbt2 := hbt1.kept (hb2.block t (by omega))
          have hZ2 := hZ1.kept (hb2.block G (by omega))
          have hsz2' : K + 1 ≤ w2.heap.size := Nat.le_trans hsz1' hb2.size
          have hon3 : Only (fun k => k = t) w w2 := hon1.then (T := fun k => K + 1 ≤ k) ⟨hb2.os, hb2.tape, hb2.output, hb2.size, fun j hj hj2 => hb2.block j (by omega)⟩ (fun j hj hj2 => by omega)
          have hown3 : ROwn encI 3 1 (K + 1) w2 v' (feeds (pre ++ [c])) := by
            unfold feeds at hown2 ⊢
            rw [feedsF_snoc, if_pos h10]
            have e : ((1 + pre.length : Nat) : Int) = (pre.length : Int) + 1 := by omega
            rw [e]; exact hown2
          subst h10
          clear hown2 hit1 hbt1 hZ1 hon1 hsz1' hown1 c0 c1 hb2 hon2
          have HIT := Lib.hid hit2
          have q0 := hbt2.cell (j := 0) rfl
          have q1 := hbt2.cell (j := 1) rfl
          have qf := hbt2.fz 1
          have hZs : Z.size = n + 16 := by
            have := congrArg List.length hZl
            simp at this
            omega
          have q2 := hZ2.cell (j := pre.length) (v := Z[pre.length]'(by omega)) (Array.getElem?_eq_getElem _)
          have q3 := hZ2.fz pre.length
          have hlt2 : (pre.length : Int) < (n : Int) + 16 := by omega
          have s1 : IntKind.i64.wrap ((pre.length : Int) + 1) = (pre.length : Int) + 1 := IntWalk.i64_in _ (by omega)
          generalize hzz : Z[pre.length]'(by omega) = zz at *
          have HREL := Lib.hid (ins_rel (w := w) (s := s) (p' := p') hd3 hcs hd4 hit2 hbt2 hZ2 hZl (by omega) hown3 hon3 hsz2' ht hge hGK hwK)
          clear hbt2 hZ2 hit2 hown3 hon3 hsz2'
          go_wp2_with fail
          go_region
          go_wp2_with fail
          go_roundw
          case rel => exact HREL.out
          case measure =>
            have e : (((w2.setCell ⟨G, pre.length, none⟩ (.int .i32 10)).setCell ⟨t, 1, none⟩ (.int .i64 ((pre.length : Int) + 1))).drew).iterPos K = p' := iterPos_of (by
              exact ((Below.heap_setCell _ ⟨t, 1, none⟩ _ _ (show K ≠ t by omega)).trans (Below.heap_setCell _ ⟨G, pre.length, none⟩ _ _ (show K ≠ G by omega))).trans HIT.out)
            rw [e]
            omega
          
        · have d10 : ((c : Int) == (10 : Int)) = false := by simp; omega
          have hown3 : ROwn encI 3 1 (K + 1) w1 u11 (feeds (pre ++ [c])) := by
            unfold feeds at hown1 ⊢
            rw [feedsF_snoc, if_neg h10, List.append_nil]; exact hown1
          clear c0 c1 hown1
          have HIT := Lib.hid hit1
          have q0 := hbt1.cell (j := 0) rfl
          have q1 := hbt1.cell (j := 1) rfl
          have qf := hbt1.fz 1
          have hZs : Z.size = n + 16 := by
            have := congrArg List.length hZl
            simp at this
            omega
          have q2 := hZ1.cell (j := pre.length) (v := Z[pre.length]'(by omega)) (Array.getElem?_eq_getElem _)
          have q3 := hZ1.fz pre.length
          have hlt2 : (pre.length : Int) < (n : Int) + 16 := by omega
          have s1 : IntKind.i64.wrap ((pre.length : Int) + 1) = (pre.length : Int) + 1 := IntWalk.i64_in _ (by omega)
          generalize hzz : Z[pre.length]'(by omega) = zz at *
          have HREL := Lib.hid (ins_rel (w := w) (s := s) (p' := p') hd3 hcs hd4 hit1 hbt1 hZ1 hZl (by omega) hown3 hon1 hsz1' ht hge hGK hwK)
          clear hbt1 hZ1 hit1 hown3 hon1 hsz1'
          go_wp2_with fail
          go_region
          go_wp2_with fail
          go_roundw
          case rel => exact HREL.out
          case measure =>
            have e : (((w1.setCell ⟨G, pre.length, none⟩ (.int .i32 c)).setCell ⟨t, 1, none⟩ (.int .i64 ((pre.length : Int) + 1))).drew).iterPos K = p' := iterPos_of (by
              exact ((Below.heap_setCell _ ⟨t, 1, none⟩ _ _ (show K ≠ t by omega)).trans (Below.heap_setCell _ ⟨G, pre.length, none⟩ _ _ (show K ≠ G by omega))).trans HIT.out)
            rw [e]
            omega
          
      · have hp2 : p = s.size := by omega
        have hrn : rest = [] := by
          have : s.data.toList.drop p = [] := List.drop_eq_nil_of_le (by rw [hp2]; simp)
          rw [this, charsD_nil] at hrest
          cases hrest; rfl
        subst hrn
        rw [List.append_nil] at hcs
        have hln : pre.length = n := by rw [HNN.out, hcs]
        obtain rfl : pre = cs := hcs.symm
        have hnx := fun ty => Lib.run_next_end_at (P := Tryz.prog) wr K s p ty hit hlt
        have q3 := hbt.cell (j := 3) rfl
        have qf := hbt.fz 3
        have HIns := Lib.hid (sinsert_nil hsz2 hown (by have := feedsF_len pre 1; unfold feeds; omega))
        have HBT := Lib.hid hbt
        have HZ := Lib.hid hZ
        have HZL := Lib.hid hZl
        have HON := Lib.hid honly
        clear hbt hZ hZl honly hown hit hrest
        go_wp2_with fail
        refine HIns.out.mono ?_
        rintro e w8 ⟨v', rfl, hown8, hb8⟩
        have hb9 := HBT.out.up hb8
        have hZ9 := HZ.out.up hb8
        have qf := hb9.fz 3
        have q3 := hb9.cell (j := 3) rfl
        have hon9 : Only (fun k => k = t) w w8 := HON.out.trans (Only.of_below hb8)
        obtain ⟨A8, c8, rfl, _, _, _⟩ := hown8.shape eltI
        clear hb8 hown8
        have HB9 := Lib.hid hb9
        have HZ9 := Lib.hid hZ9
        clear hb9 hZ9
        go_wp2_with fail
        go_ret
        refine ⟨rfl, hon9.setCell (p := ⟨t, 3, none⟩) rfl _, G, hge, pre.map Int.ofNat ++ List.replicate 16 0, n + 16, n, n + 16, ?_⟩
        have hbf := HB9.out.set (j := 3) (by simp) (.slice A8 (feeds pre).length c8)
        have hZf := HZ9.out.kept (Below.heap_setCell w8 ⟨t, 3, none⟩ (.slice A8 (feeds pre).length c8) G (show G ≠ t by omega))
        have hBl : (pre.map Int.ofNat ++ List.replicate 16 (0 : Int)).length = n + 16 := by simp [hln]
        refine ⟨?_, ?_, ?_, by rw [hBl]; exact Nat.le_refl _, by omega, hZf.lt, fun i z hz => ?_, by omega, by rw [hBl]; exact Nat.le_refl _, ?_, HII.out⟩
        · rw [hBl]; exact hbf.cell (j := 0) rfl
        · rw [← hln]; exact hbf.cell (j := 1) rfl
        · exact hbf.cell (j := 2) rfl
        · refine hZf.cell ?_
          rw [← Array.getElem?_toList, HZL.out, hln, show n + 16 - n = 16 by omega]
          have e : (pre.map fun c : Nat => Value.int .i32 c) ++ List.replicate 16 (Value.int .i32 0) = (pre.map Int.ofNat ++ List.replicate 16 (0 : Int)).map (fun z => Value.int .i32 z) := by
            rw [List.map_append, List.map_map, List.map_replicate]; rfl
          rw [e, List.getElem?_map, hz]; rfl
        · rw [← hln, List.take_left' (by simp), List.drop_eq_nil_of_le (by simp), List.append_nil]
end
end Go.Proofs.YtnbccoelbfgmgaaGreatDoor
