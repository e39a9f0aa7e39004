/- marks.In: the marks in a range, by position and number. -/
import Derived.Test.YtlnpjdihdemgmaaMkX
namespace Go.Proofs.Ytlnpjdihdemgmaa
open Go.RowKit Go.Sort Go.Shelf
set_option linter.unusedVariables false

theorem cf_lt (m : List (Int × Mk)) (x y : Int) : cfI m x y < 0 ↔ (mkI m x).1 < (mkI m y).1 ∨ ((mkI m x).1 = (mkI m y).1 ∧ x < y) := by
  unfold cfI orI cmpI
  generalize (mkI m x).1 = a
  generalize (mkI m y).1 = b
  omega
theorem cf_swo (m : List (Int × Mk)) : SWO (ltOf (cfI m)) :=
  ⟨fun x => by simp only [ltOf, decide_eq_false_iff_not, cf_lt]; omega,
   fun x y z => by simp only [ltOf, decide_eq_true_eq, cf_lt]; omega,
   fun x y z => by simp only [ltOf, decide_eq_false_iff_not, cf_lt]; omega⟩
theorem cf_eq (m : List (Int × Mk)) (x y : Int) (h1 : ltOf (cfI m) x y = false) (h2 : ltOf (cfI m) y x = false) : x = y := by
  simp only [ltOf, decide_eq_false_iff_not, cf_lt] at h1 h2
  omega
theorem sort_strict (m : List (Int × Mk)) (xs : List Int) (hn : xs.Nodup) : (xs.mergeSort fun x y => !(ltOf (cfI m)) y x).Pairwise (fun x y => cfI m x y < 0) := by
  have h1 : (xs.mergeSort fun x y => !(ltOf (cfI m)) y x).Pairwise (fun x y => (!(ltOf (cfI m)) y x) = true) :=
    List.pairwise_mergeSort (fun a b c => by simp only [Bool.not_eq_true', ltOf, decide_eq_false_iff_not, cf_lt]; omega) (fun a b => by
      simp only [Bool.or_eq_true, Bool.not_eq_true', ltOf, decide_eq_false_iff_not, cf_lt]; omega) xs
  have h2 : (xs.mergeSort fun x y => !(ltOf (cfI m)) y x).Nodup := (List.mergeSort_perm xs _).nodup_iff.2 hn
  refine (h1.and h2).imp ?_
  rintro x y ⟨h, hne⟩
  simp only [Bool.not_eq_true', ltOf, decide_eq_false_iff_not, cf_lt] at h
  rw [cf_lt]
  omega

theorem in1_lays {W : World} {B b bm blk size : Nat} {m : List (Int × Mk)} {n : Int} (hB : W.cell? ⟨B, 0, none⟩ = some (.pointer (some ⟨b, 0, none⟩))) (h : MarksAt W b bm m n) (h1 : B < blk) (h2 : b < blk) (h3 : bm < blk) (hblk : blk < W.heap.size) :
    CmpLays1 Try.prog 44 #[.pointer (some ⟨B, 0, none⟩)] encZ (cfI m) blk 0 size W := by
  intro q os dk hs x y
  have hg : W.grownBy (sortWorld encZ W blk 0 q dk os) (some blk) := grownBy_sorted_i dk
  have hne : ∀ k, k < blk → (sortWorld encZ W blk 0 q dk os).heap[k]? = W.heap[k]? := fun k hk => hg.block k (by omega) (fun e => by cases e; omega)
  exact in1_any ((World.cell?_of_block (w := W) (a := ⟨B, 0, none⟩) (hne B h1)).trans hB) (h.kept (hne b h2) (hne bm h3)) x y

def SortPost (base : Nat) (W : World) (m : List (Int × Mk)) (v : Value) (xs : List Int) (e : Ending) (w' : World) : Prop :=
  e = .returned (.tuple #[]) ∧ ∃ l, l.Perm xs ∧ l.Pairwise (fun x y => cfI m x y < 0) ∧ ROwn encI 3 1 base w' v l ∧ Below base W w'
theorem sort_call {W : World} {B b bm base : Nat} {m : List (Int × Mk)} {n : Int} (hB : W.cell? ⟨B, 0, none⟩ = some (.pointer (some ⟨b, 0, none⟩))) (h : MarksAt W b bm m n) (h1 : B < base) (h2 : b < base) (h3 : bm < base) {v : Value} {xs : List Int} (hown : ROwn encI 3 1 base W v xs) (hn : xs.Nodup) (hxl : xs.length ≤ 1000000) :
    Calls Try.prog 43 #[v, .func (.func 44) #[] #[.pointer (some ⟨B, 0, none⟩)]] W (SortPost base W m v xs) := by
  have hown0 := hown
  unfold ROwn at hown
  rw [cellsI] at hown
  rcases hown.2 with ⟨rfl, hz⟩ | ⟨gb, cap, cur, rfl, hbase, hgb, r1, r2, r3, r4⟩
  · have hss : xs = [] := List.eq_nil_of_length_eq_zero hz
    subst hss
    have c : Calls Try.prog 43 #[.slice none 0 0, .func (.func 44) #[] #[.pointer (some ⟨B, 0, none⟩)]] W fun e w' => e = .returned (.tuple #[]) ∧ w' = W :=
      AnyF.slices_SortFunc_none (ρ := Try.sortFA_ren) { Try.sortFA with } none 0 _ W
    exact c.mono fun e w' ⟨he, hw⟩ => by subst hw; exact ⟨he, [], List.Perm.refl _, List.Pairwise.nil, hown0, Below.refl _ _⟩
  · have hH : Holds encZ W gb 0 xs.toArray := holds_of_block_i hgb (by simpa using r4)
    have hgl : gb < W.heap.size := (Array.getElem?_eq_some_iff.1 hgb).1
    have hsz : xs.toArray.size < 4611686018427387904 := by simp; omega
    have c : Calls Try.prog 43 #[.slice (some ⟨gb, 0, none⟩) xs.toArray.size cap, .func (.func 44) #[] #[.pointer (some ⟨B, 0, none⟩)]] W fun e w' =>
        e = .returned (.tuple #[]) ∧ ∃ n os, w' = sortWorld encZ W gb 0 n (xs.toArray.toList.mergeSort fun x y => !(ltOf (cfI m)) y x).toArray os :=
      Any.slices_SortFunc_total Try.sortFA encZ (fun _ => rfl) (cfI m) (cf_swo m) 44 #[.pointer (some ⟨B, 0, none⟩)] gb 0 cap xs.toArray W (enters_of Try.func44 (by kernel_rfl) rfl)
        (in1_lays hB h (by omega) (by omega) (by omega) hgl) hH hgl hsz (cf_eq m)
    rw [List.size_toArray] at c
    refine c.mono fun e w' ⟨he, nn, os, hw⟩ => ?_
    subst hw
    have hp : (xs.mergeSort fun x y => !(ltOf (cfI m)) y x).Perm xs := List.mergeSort_perm xs _
    refine ⟨he, _, hp, sort_strict m xs hn, ?_, (Below.refl base W).grown (grownBy_sorted_i _) (by omega) (fun j hj => by cases hj; exact hbase)⟩
    unfold ROwn
    rw [cellsI, hp.length_eq]
    exact ownsRow_sorted_i hp.length_eq hbase hgb r1 r2 r3

/-- Handed back: a slice of the call's own with the numbers of the marks in the range, by position and number. -/
def InPost (w : World) (m : List (Int × Mk)) (from_ to : Int) (e : Ending) (w' : World) : Prop :=
  ∃ v l, e = .returned v ∧ l.Nodup ∧ (∀ k, k ∈ l ↔ ∃ x, (k, x) ∈ m ∧ from_ ≤ x.1 ∧ x.1 ≤ to) ∧ l.Pairwise (fun x y => cfI m x y < 0) ∧ ROwn encI 3 1 w.heap.size w' v l ∧ Below w.heap.size w w'
abbrev inW (w : World) (b : Nat) : World := w.alloc (.cells #[.pointer (some ⟨b, 0, none⟩)] 25)

/-- What has been collected when the keys in todo are left. -/
def Coll (m : List (Int × Mk)) (from_ to : Int) (todo xs : List Int) : Prop := xs.Nodup ∧ ∀ k, k ∈ xs ↔ ∃ x, (k, x) ∈ m ∧ k ∉ todo ∧ from_ ≤ x.1 ∧ x.1 ≤ to
theorem Coll.start (m : List (Int × Mk)) (from_ to : Int) : Coll m from_ to (m.map (·.1)) [] :=
  ⟨List.nodup_nil, fun k => ⟨fun h => by simp at h, fun ⟨x, h1, h2, _⟩ => absurd (List.mem_map.2 ⟨_, h1, rfl⟩) h2⟩⟩
theorem Coll.take {m : List (Int × Mk)} {from_ to id : Int} {v : Mk} {todo xs : List Int} (h : Coll m from_ to todo xs) (hn : (m.map (·.1)).Nodup) (hid : id ∈ todo) (hm : (id, v) ∈ m) (h1 : from_ ≤ v.1) (h2 : v.1 ≤ to) : Coll m from_ to (todo.filter (· != id)) (xs ++ [id]) := by
  have hni : id ∉ xs := fun hx => by obtain ⟨x, _, h2, _⟩ := (h.2 id).1 hx; exact h2 hid
  refine ⟨List.nodup_append.2 ⟨h.1, by simp, fun a ha b hb e => by simp at hb; subst hb; subst e; exact hni ha⟩, fun k => ?_⟩
  rw [List.mem_append, List.mem_singleton, h.2 k]
  constructor
  · rintro (⟨x, a1, a2, a3⟩ | rfl)
    · exact ⟨x, a1, fun hf => a2 (List.mem_filter.1 hf).1, a3⟩
    · exact ⟨v, hm, fun hf => by simpa using (List.mem_filter.1 hf).2, h1, h2⟩
  · rintro ⟨x, a1, a2, a3⟩
    by_cases e : k = id
    · exact .inr e
    · exact .inl ⟨x, a1, fun hf => a2 (List.mem_filter.2 ⟨hf, by simpa using e⟩), a3⟩
theorem Coll.skip {m : List (Int × Mk)} {from_ to id : Int} {v : Mk} {todo xs : List Int} (h : Coll m from_ to todo xs) (hn : (m.map (·.1)).Nodup) (hid : id ∈ todo) (hm : (id, v) ∈ m) (h1 : ¬ (from_ ≤ v.1 ∧ v.1 ≤ to)) : Coll m from_ to (todo.filter (· != id)) xs := by
  refine ⟨h.1, fun k => ?_⟩
  rw [h.2 k]
  constructor
  · rintro ⟨x, a1, a2, a3⟩
    exact ⟨x, a1, fun hf => a2 (List.mem_filter.1 hf).1, a3⟩
  · rintro ⟨x, a1, a2, a3⟩
    by_cases e : k = id
    · subst e
      have hx : (k, x) = (k, v) := inj_of_nodup hn a1 hm rfl
      cases hx
      exact absurd a3 h1
    · exact ⟨x, a1, fun hf => a2 (List.mem_filter.2 ⟨hf, by simpa using e⟩), a3⟩
theorem nodup_len : ∀ (xs ys : List Int), xs.Nodup → xs ⊆ ys → xs.length ≤ ys.length
  | [], _, _, _ => by simp
  | x :: xs, ys, hn, hs => by
    have hx : x ∈ ys := hs List.mem_cons_self
    obtain ⟨hnx, hn'⟩ := List.nodup_cons.1 hn
    have h1 : xs ⊆ ys.erase x := fun k hk => (List.mem_erase_of_ne (fun (e : k = x) => hnx (by rw [← e]; exact hk))).2 (hs (List.mem_cons_of_mem _ hk))
    have h2 := nodup_len xs (ys.erase x) hn' h1
    have h3 := List.length_erase_of_mem hx
    have h4 : 0 < ys.length := List.length_pos_of_mem hx
    simp only [List.length_cons]
    omega
theorem Coll.len {m : List (Int × Mk)} {from_ to : Int} {todo xs : List Int} (h : Coll m from_ to todo xs) : xs.length ≤ m.length := by
  have h1 : xs ⊆ m.map (·.1) := fun k hk => by obtain ⟨x, hx, _⟩ := (h.2 k).1 hk; exact List.mem_map.2 ⟨_, hx, rfl⟩
  have := nodup_len xs (m.map (·.1)) h.1 h1
  simpa using this

set_option maxRecDepth 100000 in
set_option maxHeartbeats 2000000 in
theorem in_any {w : World} {b bm : Nat} {m : List (Int × Mk)} {n : Int} (h : MarksAt w b bm m n) (from_ to : Int) (hl : m.length ≤ 1000000) : Calls Try.prog 24 #[.pointer (some ⟨b, 0, none⟩), .int .i64 from_, .int .i64 to] w (InPost w m from_ to) := by
  have hB := below1 w (.cells #[.pointer (some ⟨b, 0, none⟩)] 25)
  have h1 := h.up hB
  have k0 : (inW w b).cell? ⟨w.heap.size, 0, none⟩ = some (.pointer (some ⟨b, 0, none⟩)) := by
    have e := (MapKept.heap_alloc w (.cells #[.pointer (some ⟨b, 0, none⟩)] 25)).1
    simp only [World.cell?, e]; rfl
  have c0 := h1.c0
  obtain ⟨w1, hrange, hir, hb1, hs1⟩ := h1.im.range (P := Try.prog) mapT
  have hsz : (inW w b).heap.size = w.heap.size + 1 := by simp
  rw [hsz] at hrange hir hs1 hb1
  have hbl := h.im.lt
  have hblt := h.lt
  have hnd := h.im.nodup
  have HN := Lib.hid hnd
  have HS := Lib.hid hsz
  have HS1 := Lib.hid hs1
  clear hsz hnd hs1
  go_enter Try.func24, Try.ntmps24
  go_wp2_with (go_at_call 34; refine (made_any h1).mono ?_; rintro e w' ⟨rfl, rfl⟩)
  go_loopw [7] (fun vt wr => ∃ todo xs, IRange wr bm (w.heap.size + 1) encM m todo ∧ Below (w.heap.size + 1) (inW w b) wr ∧ ROwn encI 3 1 (w.heap.size + 1 + 1) wr vt xs ∧ Coll m from_ to todo xs) (fun _ wr => wr.rangeLeft bm (w.heap.size + 1))
  case atStart => exact ⟨m.map (·.1), [], hir, hb1, ROwn.nil _ _, Coll.start m from_ to⟩
  case round =>
    clear hir hb1 hrange HS1 w1 c0
    obtain ⟨todo, xs, hir, hbw, hown, hcoll⟩ := hrel
    have d0 := (hbw.cell (p := ⟨w.heap.size, 0, none⟩) (by show w.heap.size < _; omega)).trans k0
    have hrl := hir.lt
    have hmw : MarksAt wr b bm m n := h1.below hbw (by omega) (by omega)
    have hxl := hcoll.len
    clear k0
    rcases hir.next (P := Try.prog) with ⟨rfl, hnx⟩ | ⟨id, v, w1, hk, hv, hnx, hir1, hg1, hsz1, hen⟩
    · go_wp2_with fail
      refine (sort_call (base := w.heap.size + 1 + 1) d0 hmw (by omega) (by omega) (by omega) hown hcoll.1 (by omega)).mono ?_
      rintro e w2 ⟨rfl, l, hp, hs, hown2, hb2⟩
      go_wp2_with fail
      go_ret
      exact ⟨_, l, rfl, hp.nodup_iff.2 hcoll.1, fun k => by rw [hp.mem_iff, hcoll.2 k]; simp, hs, hown2.low (by omega), hB.trans ((hbw.mono (by omega)).trans (hb2.mono (by omega)))⟩
    · obtain ⟨va, vb⟩ := v
      have HV := Lib.hid hv
      have HK := Lib.hid hk
      clear hv hk
      have hmem : (id, (va, vb)) ∈ m := lookM_mem HV.out
      have HM := Lib.hid hmem
      clear hmem
      have hl1 := hir.left
      have HL1 := Lib.hid hl1
      clear hl1
      have hal := MapKept.heap_alloc w1 (.cells #[.int .i64 va, .bool vb] 65)
      have hgx : ∀ j, j < w1.heap.size → j ≠ w.heap.size + 1 → (w1.alloc (.cells #[.int .i64 va, .bool vb] 65)).heap[j]? = wr.heap[j]? := fun j hj hne => (hal.2 j hj).trans (hg1.block j (by omega) (fun e => hne (by cases e; rfl)))
      obtain ⟨W2, hW2⟩ : ∃ W2, w1.alloc (.cells #[.int .i64 va, .bool vb] 65) = W2 := ⟨_, rfl⟩
      have hir2 : IRange W2 bm (w.heap.size + 1) encM m (todo.filter (· != id)) := by
        rw [← hW2]; exact hir1.kept (hal.2 bm hir1.im.lt) (hal.2 _ hir1.lt)
      have hbw2 : Below (w.heap.size + 1) (inW w b) W2 := by
        refine hbw.trans ⟨?_, ?_, ?_, ?_, ?_⟩
        · rw [← hW2]; exact hg1.os
        · rw [← hW2]; exact hg1.tape
        · rw [← hW2]; exact hg1.output
        · rw [← hW2]; simp; omega
        · intro j hj; rw [← hW2]; exact hgx j (by omega) (by omega)
      have hown2 := hown.kept (w' := W2) fun g hg => by
        rw [← hW2]; exact hgx g (by have := hown.lt hg; omega) (by have := hown.base hg; omega)
      have hzW : w.heap.size + 1 < W2.heap.size := hir2.lt
      have hzW2 : w.heap.size + 1 + 1 ≤ W2.heap.size := hzW
      have x0 : W2.cell? ⟨wr.heap.size, 0, none⟩ = some (.int .i64 va) := by rw [← hsz1, ← hW2]; simp only [World.cell?, hal.1]; rfl
      have x1 : W2.cell? ⟨wr.heap.size, 1, none⟩ = some (.bool vb) := by rw [← hsz1, ← hW2]; simp only [World.cell?, hal.1]; rfl
      have hl2 := hir2.left
      have HL2 := Lib.hid hl2
      clear d0 hgx hal hown hl2
      by_cases hr : from_ ≤ va ∧ va ≤ to
      · obtain ⟨q1, q2⟩ := hr
        obtain ⟨v', w', happ, hown', hb', ho', _⟩ := append_elem eltI hown2 hzW2 id (by omega) (by omega)
        have hir3 : IRange w' bm (w.heap.size + 1) encM m (todo.filter (· != id)) := hir2.kept (hb'.block bm (by omega)) (hb'.block _ (by omega))
        have hbw3 : Below (w.heap.size + 1) (inW w b) w' := hbw2.trans (hb'.mono (by omega))
        have hl3 := hir3.left
        have HL3 := Lib.hid hl3
        have HP := Lib.hid happ
        clear happ hl3 hown2 hir2 hbw2 hb' ho'
        go_wp2_with (at_builtin; refine wpList_app_run rfl _ _ _ rfl rfl rfl HP.out ?_)
        go_roundw
        case rel => exact ⟨todo.filter (· != id), xs ++ [id], hir3, hbw3, hown', hcoll.take HN.out HK.out HM.out q1 q2⟩
        case measure =>
          rw [HL3.out, HL1.out]
          exact filter_lt_of_mem HK.out
      · have hsk := hcoll.skip HN.out HK.out HM.out hr
        by_cases q1 : from_ ≤ va
        · have q2 : to < va := by omega
          clear hr
          go_wp2_with fail
          go_roundw
          case rel => exact ⟨todo.filter (· != id), xs, hir2, hbw2, hown2, hsk⟩
          case measure =>
            rw [HL2.out, HL1.out]
            exact filter_lt_of_mem HK.out
        · have q2 : va < from_ := by omega
          clear hr q1
          go_wp2_with fail
          go_roundw
          case rel => exact ⟨todo.filter (· != id), xs, hir2, hbw2, hown2, hsk⟩
          case measure =>
            rw [HL2.out, HL1.out]
            exact filter_lt_of_mem HK.out
end Go.Proofs.Ytlnpjdihdemgmaa
