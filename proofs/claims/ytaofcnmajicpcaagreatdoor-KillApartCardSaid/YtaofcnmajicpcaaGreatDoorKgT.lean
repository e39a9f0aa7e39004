/- Registers: the map and the sorted list hold the same after the same calls. -/
import Derived.Test.YtaofcnmajicpcaaGreatDoorKgS
namespace Go.Proofs.YtaofcnmajicpcaaGreatDoor
open Go.RowKit
set_option linter.unusedVariables false
set_option linter.unusedSimpArgs false
def refE (lc : List (Int × Con)) (a : CallE) : Int := if pickI a.kind 6 < 3 then setE a.c a.x.con else if pickI a.kind 6 = 3 then rdropE lc a.c else addR lc a.c a.n
def refM (lc : List (Int × Con)) (a : CallE) : List (Int × Con) := if pickI a.kind 6 < 3 then rsetM lc a.c a.x.con else if pickI a.kind 6 = 3 then rdel lc a.c else raddM lc a.c a.n
/-- A map and a sorted list that hold the same. -/
structure Rel (mc lc : List (Int × Con)) : Prop where
  nd : (mc.map (·.1)).Nodup
  so : (lc.map (·.1)).Pairwise (· < ·)
  eq : ∀ k, lookM mc k = lookM lc k
theorem Rel.nil : Rel [] [] := ⟨by simp, by simp, fun _ => rfl⟩
variable {mc lc : List (Int × Con)}
theorem look_key {α : Type} {m : List (Int × α)} {k : Int} (hn : (m.map (·.1)).Nodup) : k ∈ m.map (·.1) ↔ (lookM m k).isSome = true := by
  constructor
  · intro h
    obtain ⟨p, hp, rfl⟩ := List.mem_map.1 h
    rw [lookM_of_mem (v := p.2) hn hp]; rfl
  · intro h
    obtain ⟨x, hx⟩ := Option.isSome_iff_exists.1 h
    exact List.mem_map.2 ⟨_, lookM_mem hx, rfl⟩
theorem Rel.keys (h : Rel mc lc) : (mc.map (·.1)).Perm (lc.map (·.1)) := by
  rw [List.perm_ext_iff_of_nodup h.nd (nodup_of_sorted h.so)]
  intro k
  rw [look_key h.nd, look_key (nodup_of_sorted h.so), h.eq]
theorem Rel.len (h : Rel mc lc) : mc.length = lc.length := by simpa using h.keys.length_eq
theorem Rel.put (h : Rel mc lc) (c : Int) (y : Con) : Rel (putM mc c y) (rput lc c y) :=
  ⟨putM_nodup h.nd c y, rput_keys h.so c y, fun k => by rw [lookM_put, lookM_rput h.so, h.eq]⟩
theorem Rel.del (h : Rel mc lc) (c : Int) : Rel (delM mc c) (rdel lc c) :=
  ⟨delM_nodup h.nd c, rdel_keys h.so c, fun k => by rw [lookM_del, lookM_rdel h.so, h.eq]⟩
theorem isL_look {α : Type} {l : List (Int × α)} (hs : (l.map (·.1)).Pairwise (· < ·)) (c : Int) : isL l c = (lookM l c).isSome := by
  rw [lookM_sorted hs]
  cases h : isL l c with
  | true => obtain ⟨x, hx⟩ := isL_at h; rw [if_pos rfl, hx]; rfl
  | false => rw [if_neg (by decide)]; rfl
theorem Rel.err (h : Rel mc lc) (a : CallE) : callE mc a = refE lc a := by
  unfold callE refE
  split
  · rfl
  split
  · unfold dropE rdropE; rw [isL_look h.so, h.eq]
  · unfold addR; rw [h.eq]
theorem Rel.step (h : Rel mc lc) (a : CallE) : Rel (callM mc a) (refM lc a) := by
  unfold callM refM
  split
  · unfold setM rsetM
    split
    · exact h.put _ _
    · exact h
  split
  · exact h.del _
  · unfold addM raddM
    rw [h.eq]
    cases lookM lc a.c with
    | none => exact h
    | some x => dsimp only; split; exact h.put _ _; exact h
/-- A call changes at most one register. -/
theorem callM_other (a : CallE) {k : Int} (hk : k ≠ a.c) : lookM (callM mc a) k = lookM mc k := by
  unfold callM
  split
  · unfold setM
    split
    · rw [lookM_put, if_neg hk]
    · rfl
  split
  · rw [lookM_del, if_neg hk]
  · unfold addM
    cases lookM mc a.c with
    | none => rfl
    | some x =>
      dsimp only
      split
      · rw [lookM_put, if_neg hk]
      · rfl
theorem rput_len {α : Type} (l : List (Int × α)) (c : Int) (y : α) : (rput l c y).length ≤ l.length + 1 := by
  unfold rput
  split
  · simp
  · simp; have := ixL_le l c; omega
theorem rdel_len {α : Type} (l : List (Int × α)) (c : Int) : (rdel l c).length ≤ l.length := by
  unfold rdel
  split
  · simp; omega
  · exact Nat.le_refl _
theorem refM_len (a : CallE) : (refM lc a).length ≤ lc.length + 1 := by
  unfold refM
  split
  · unfold rsetM
    split
    · exact rput_len _ _ _
    · omega
  split
  · have := rdel_len lc a.c; omega
  · unfold raddM
    cases lookM lc a.c with
    | none => simp
    | some x =>
      dsimp only
      split
      · exact rput_len _ _ _
      · omega
section
variable {B b bm bo : Nat} {m m' l l' : List (Int × Reg)} {v v' : Value} {w w' : World}
theorem foot_lt1 (h : RegsAt w b bm m) {g : Nat} (hg : Foot m g) : g < w.heap.size := by obtain ⟨p, hp, hk⟩ := hg; exact (h.regs p hp).blk_lt hk
end
end Go.Proofs.YtaofcnmajicpcaaGreatDoor
