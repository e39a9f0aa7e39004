/- Overlays: order: the chosen ones, sorted. -/
import Derived.Test.YthjkdeocdhdkaaaGreatOvU
import Derived.Test.YthjkdeocdhdkaaaGreatLayV
import Derived.Lib.SlKeysI
namespace Go.Proofs.YthjkdeocdhdkaaaGreat
open Go.RowKit Go.Sort Go.Shelf
set_option linter.unusedVariables false
set_option linter.unusedSimpArgs false
section
variable {α : Type} [Inhabited α] {enc : α → Value}
theorem holds_blk {w : World} {g : Nat} {cur : Array Value} {e : TypeId} {ss : List α} (hb : w.heap[g]? = some (.cells cur e (0, 0))) (ht : cur.toList.take ss.length = ss.map enc) : Holds enc w g 0 ss.toArray := by
  intro j hj
  have hj' : j < ss.length := by simpa using hj
  refine ⟨?_, by simp [World.frozen?, hb]⟩
  have h1 : (cur.toList.take ss.length)[j]? = (ss.map enc)[j]? := by rw [ht]
  rw [List.getElem?_take_of_lt hj'] at h1
  simp only [World.cell?, hb, Nat.zero_add, Option.isSome_none, Bool.false_eq_true, if_false]
  rw [← Array.getElem?_toList, h1]
  simp [hj']
theorem heap_srt {w : World} {g n : Nat} {os : Array Obj} {cur : Array Value} {e : TypeId} {fr : Nat × Nat} (d : Array α) (hb : w.heap[g]? = some (.cells cur e fr)) :
    (sortWorld enc w g 0 n d os).heap[g]? = some (.cells (putCells enc 0 d cur) e fr) := by
  have hg : g < w.heap.size := (Array.getElem?_eq_some_iff.1 hb).1
  unfold sortWorld
  rw [heap_grow_old _ _ (by simpa using hg)]
  simp [putRow, mapBlock, Sort.ahead, Array.getElem?_modify, hb, onCells]
theorem grown_srt {w : World} {g n : Nat} {os : Array Obj} (d : Array α) : w.grownBy (sortWorld enc w g 0 n d os) (some g) := by
  unfold sortWorld
  refine ⟨rfl, rfl, rfl, by simp, fun k hk hne => ?_⟩
  rw [heap_grow_old _ _ (by simpa using hk)]
  have : g ≠ k := fun e => hne (by rw [e])
  simp [putRow, mapBlock, Sort.ahead, Array.getElem?_modify, this]
theorem take_srt (cur : Array Value) (ts : List α) (h : ts.length ≤ cur.size) : (putCells enc 0 ts.toArray cur).toList.take ts.length = ts.map enc := by
  apply List.ext_getElem?
  intro j
  by_cases hj : j < ts.length
  · rw [List.getElem?_take_of_lt hj, Array.getElem?_toList]
    simp [putCells, hj, show j < cur.size by omega]
  · rw [List.getElem?_take_eq_none (by omega), List.getElem?_eq_none (by simp; omega)]
theorem owns_srt {w : World} {base g cap n : Nat} {e : TypeId} {os : Array Obj} {cur : Array Value} {ss ts : List α} (hl : ts.length = ss.length) (hbase : base ≤ g) (hb : w.heap[g]? = some (.cells cur e (0, 0)))
    (h1 : ss.length ≤ cap) (h2 : cap ≤ maxLen) (h3 : cur.size = cap * 1) :
    (sortWorld enc w g 0 n ts.toArray os).ownsRow base e 1 (.slice (some ⟨g, 0, none⟩) ss.length cap) ss.length (ts.map enc) :=
  ⟨by simp [hl], .inr ⟨g, cap, _, rfl, hbase, heap_srt _ hb, h1, h2, by simp [putCells, h3], by rw [Nat.mul_one, ← hl]; exact take_srt cur ts (by omega)⟩⟩
end
section
variable {w w' W : World} {x : OverE} {L L' M : List OverE} {b : Nat} {pr ev nx : Int} {v v' : Value} {A : Option Addr}
theorem cfD_lt (pr : Int) (x y : OverD) : cfD pr x y < 0 ↔ rankI pr x.ps < rankI pr y.ps ∨ (rankI pr x.ps = rankI pr y.ps ∧ (x.f < y.f ∨ (x.f = y.f ∧ (y.t < x.t ∨ (y.t = x.t ∧ x.id < y.id))))) := by
  unfold cfD orL
  generalize rankI pr x.ps = r1
  generalize rankI pr y.ps = r2
  have key : ∀ a b : Int, (cmpI a b != 0) = !(a == b) := fun a b => by
    unfold cmpI
    by_cases h1 : a < b
    · rw [if_pos h1]; have : ¬ a = b := by omega
      simp [this]
    · rw [if_neg h1]
      by_cases h2 : b < a
      · rw [if_pos h2]; have : ¬ a = b := by omega
        simp [this]
      · rw [if_neg h2]; have : a = b := by omega
        simp [this]
  simp only [List.find?_cons, key, List.find?_nil]
  by_cases h1 : r1 = r2
  · by_cases h2 : x.f = y.f
    · by_cases h3 : y.t = x.t
      · by_cases h4 : x.id = y.id
        · simp [h1, h2, h3, h4]
        · have : (x.id == y.id) = false := by simpa using h4
          simp [h1, h2, h3, this]; unfold cmpI; omega
      · have : (y.t == x.t) = false := by simpa using h3
        simp [h1, h2, this, h3]; unfold cmpI; omega
    · have : (x.f == y.f) = false := by simpa using h2
      simp [h1, this, h2]; unfold cmpI; omega
  · have : (r1 == r2) = false := by simpa using h1
    simp [this, h1]; unfold cmpI; omega
/-- Before, as a test. -/
def leD (pr : Int) (x y : OverD) : Bool := !decide (cfD pr y x < 0)
def sortD (pr : Int) (D : List OverD) : List OverD := D.mergeSort (leD pr)
theorem leD_trans (pr : Int) (a b c : OverD) : leD pr a b = true → leD pr b c = true → leD pr a c = true := by
  simp only [leD, Bool.not_eq_true', decide_eq_false_iff_not, cfD_lt]; omega
theorem leD_total (pr : Int) (a b : OverD) : (leD pr a b || leD pr b a) = true := by
  simp only [leD, Bool.or_eq_true, Bool.not_eq_true', decide_eq_false_iff_not, cfD_lt]; omega
/-- The elements of a list, as a type. -/
abbrev InL (M : List OverE) := { x : OverE // x ∈ M }
abbrev encS {M : List OverE} (x : InL M) : Value := .pointer (some ⟨x.1.g, 0, none⟩)
def cfS (pr : Int) {M : List OverE} (x y : InL M) : Int := cfD pr x.1.dat y.1.dat
theorem cfS_swo (pr : Int) (M : List OverE) : SWO (ltOf (cfS pr (M := M))) :=
  ⟨fun x => by simp only [ltOf, cfS, decide_eq_false_iff_not, cfD_lt]; omega,
   fun x y z => by simp only [ltOf, cfS, decide_eq_true_eq, cfD_lt]; omega,
   fun x y z => by simp only [ltOf, cfS, decide_eq_false_iff_not, cfD_lt]; omega⟩
theorem cfS_eq (pr : Int) {M : List OverE} (hn : (M.map OverE.id).Nodup) (x y : InL M) (h1 : ltOf (cfS pr) x y = false) (h2 : ltOf (cfS pr) y x = false) : x = y := by
  simp only [ltOf, cfS, decide_eq_false_iff_not, cfD_lt] at h1 h2
  have he : x.1.id = y.1.id := by
    have a : x.1.dat.id = x.1.id := rfl
    have b : y.1.dat.id = y.1.id := rfl
    omega
  obtain ⟨i, hi⟩ := List.mem_iff_getElem?.1 x.2
  obtain ⟨j, hj⟩ := List.mem_iff_getElem?.1 y.2
  obtain ⟨hi1, he1⟩ := List.getElem?_eq_some_iff.1 hi
  obtain ⟨hj1, he2⟩ := List.getElem?_eq_some_iff.1 hj
  have hij : i = j := (List.getElem_inj (xs := M.map OverE.id) (h₀ := by simpa using hi1) (h₁ := by simpa using hj1) hn).1 (by simp [he1, he2, he])
  subst hij
  rw [hi] at hj
  exact Subtype.ext (Option.some.inj hj)
theorem cells_S (M : List OverE) : cellsL encT M = M.attach.map encS := by
  rw [show M.attach.map encS = M.map (fun x => Value.pointer (some ⟨x.g, 0, none⟩)) from ?_]
  · induction M with
    | nil => rfl
    | cons a M ih => rw [cellsL_cons, ih]; rfl
  · show List.map ((fun x : OverE => Value.pointer (some ⟨x.g, 0, none⟩)) ∘ Subtype.val) M.attach = _
    rw [← List.map_map, List.attach_map_subtype_val]
theorem cells_S' {M : List OverE} (N : List (InL M)) : cellsL encT (N.map (·.1)) = N.map encS := by
  induction N with
  | nil => rfl
  | cons a N ih => rw [List.map_cons, cellsL_cons, ih]; rfl
def SortP (base : Nat) (W : World) (v : Value) (pr : Int) (M : List OverE) (e : Ending) (w' : World) : Prop :=
  e = .returned (.tuple #[]) ∧ ∃ N, N.map OverE.dat = sortD pr (M.map OverE.dat) ∧ N.Perm M ∧ ROwn encT 72 1 base w' v N ∧ Below base W w'
theorem sort_ptr {base q : Nat} (hq : W.cell? ⟨q, 0, none⟩ = some (.pointer (some ⟨b, 0, none⟩))) (hc : W.cell? ⟨b, 0, none⟩ = some (.int .i64 pr)) (hqb : q < base) (hbb : b < base) (hin : ∀ x ∈ M, OverIn W x) (hfb : ∀ x ∈ M, ∀ k ∈ x.foot, k < base) (hs : ∀ x ∈ M, SortedP x.ps ∧ x.ps.length ≤ 64)
    (hn : (M.map OverE.id).Nodup) (hown : ROwn encT 72 1 base W v M) (hl : M.length ≤ 1000000) :
    Calls Tryz.prog 71 #[v, .func (.func 72) #[] #[.pointer (some ⟨q, 0, none⟩)]] W (SortP base W v pr M) := by
  have hown0 := hown
  unfold ROwn at hown
  rcases hown.2 with ⟨rfl, hz⟩ | ⟨gb, cap, cur, rfl, hbase, hgb, r1, r2, r3, r4⟩
  · have hss : M = [] := List.eq_nil_of_length_eq_zero hz
    subst hss
    have c : Calls Tryz.prog 71 #[.slice none 0 0, .func (.func 72) #[] #[.pointer (some ⟨q, 0, none⟩)]] W fun e w' => e = .returned (.tuple #[]) ∧ w' = W :=
      AnyF.slices_SortFunc_none (ρ := Tryz.sortFA_ren) { Tryz.sortFA with } none 0 _ W
    exact c.mono fun e w' ⟨he, hw⟩ => by subst hw; exact ⟨he, [], by simp [sortD], List.Perm.refl _, hown0, Below.refl _ _⟩
  · by_cases hp : M = []
    · subst hp
      have c : Calls Tryz.prog 71 #[.slice (some ⟨gb, 0, none⟩) 0 cap, .func (.func 72) #[] #[.pointer (some ⟨q, 0, none⟩)]] W fun e w' => e = .returned (.tuple #[]) ∧ w' = W :=
        AnyF.slices_SortFunc_none (ρ := Tryz.sortFA_ren) { Tryz.sortFA with } (some ⟨gb, 0, none⟩) cap _ W
      exact c.mono fun e w' ⟨he, hw⟩ => by subst hw; exact ⟨he, [], by simp [sortD], List.Perm.refl _, hown0, Below.refl _ _⟩
    · obtain ⟨x0, hx0⟩ := List.exists_mem_of_ne_nil M hp
      letI : Inhabited (InL M) := ⟨⟨x0, hx0⟩⟩
      have hal : M.attach.length = M.length := List.length_attach
      have hH : Holds encS W gb 0 M.attach.toArray := holds_blk hgb (by rw [hal, ← cells_S]; simpa using r4)
      have hgl : gb < W.heap.size := (Array.getElem?_eq_some_iff.1 hgb).1
      have hlays : CmpLays1 Tryz.prog 72 #[.pointer (some ⟨q, 0, none⟩)] encS (cfS pr (M := M)) gb 0 M.attach.toArray.size W := by
        intro mm os dk hs' x y
        have hg : W.grownBy (sortWorld encS W gb 0 mm dk os) (some gb) := grown_srt dk
        have hk : ∀ k, k < base → (sortWorld encS W gb 0 mm dk os).heap[k]? = W.heap[k]? := fun k hk => hg.block k (by omega) (fun e => by cases e; omega)
        have hin' : ∀ z : InL M, OverIn (sortWorld encS W gb 0 mm dk os) z.1 := fun z => (hin z.1 z.2).kept fun k hk' => hk k (hfb z.1 z.2 k hk')
        refine (ord1_any (b := b) q pr ((World.cell?_of_block (w := W) (a := ⟨q, 0, none⟩) (hk q hqb)).trans hq) ((World.cell?_of_block (w := W) (a := ⟨b, 0, none⟩) (hk b hbb)).trans hc) (hin' x) (hin' y) (hs x.1 x.2).1 (hs y.1 y.2).1 (by have := (hs x.1 x.2).2; omega) (by have := (hs y.1 y.2).2; omega)).mono ?_
        rintro e w' ⟨rfl, hb⟩
        exact ⟨rfl, hb.grow⟩
      have c : Calls Tryz.prog 71 #[.slice (some ⟨gb, 0, none⟩) M.attach.toArray.size cap, .func (.func 72) #[] #[.pointer (some ⟨q, 0, none⟩)]] W fun e w' =>
          e = .returned (.tuple #[]) ∧ ∃ n os, w' = sortWorld encS W gb 0 n (M.attach.toArray.toList.mergeSort fun x y => !(ltOf (cfS pr)) y x).toArray os :=
        Any.slices_SortFunc_total Tryz.sortFA encS (fun _ => rfl) (cfS pr) (cfS_swo pr M) 72 #[.pointer (some ⟨q, 0, none⟩)] gb 0 cap M.attach.toArray W enters_ord1
          hlays hH hgl (by simp; omega) (cfS_eq pr hn)
      rw [List.size_toArray, hal] at c
      refine c.mono fun e w' ⟨he, nn, os, hw⟩ => ?_
      subst hw
      have hpm : (M.attach.mergeSort fun x y => !(ltOf (cfS pr)) y x).Perm M.attach := List.mergeSort_perm _ _
      refine ⟨he, (M.attach.mergeSort fun x y => !(ltOf (cfS pr)) y x).map (·.1), ?_, ?_, ?_, (Below.refl base W).grown (grown_srt _) (by omega) (fun j hj => by cases hj; exact hbase)⟩
      · rw [List.map_map]
        unfold sortD
        have h5 : (M.attach.mergeSort (fun x y => !(ltOf (cfS pr)) y x)).map (OverE.dat ∘ Subtype.val) = (M.attach.map (OverE.dat ∘ Subtype.val)).mergeSort (leD pr) := List.map_mergeSort (fun a _ b _ => rfl)
        refine h5.trans ?_
        rw [← List.map_map, List.attach_map_subtype_val]
      · have := hpm.map (fun x : InL M => x.1)
        rwa [List.attach_map_subtype_val] at this
      · unfold ROwn
        rw [List.length_map, hpm.length_eq, hal, cells_S']
        have := owns_srt (enc := encS) (n := nn) (os := os) (ss := M.attach) (ts := M.attach.mergeSort fun x y => !(ltOf (cfS pr)) y x) hpm.length_eq hbase hgb (by rw [hal]; exact r1) r2 r3
        rw [hal] at this
        exact this
end
end Go.Proofs.YthjkdeocdhdkaaaGreat
