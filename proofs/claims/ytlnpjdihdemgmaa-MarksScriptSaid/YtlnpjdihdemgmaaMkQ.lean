/- marks.All, copyistkit.Same at marks. -/
import Derived.Test.YtlnpjdihdemgmaaMkP
import Derived.Test.YtlnpjdihdemgmaaUpT
namespace Go.Proofs.Ytlnpjdihdemgmaa
open Go.RowKit
set_option linter.unusedVariables false
variable {b bm : Nat} {m : List (Int × Mk)} {n : Int} {w : World}

/-- Handed back: a slice of the call's own that holds m. -/
def AllPost (w : World) (m : List (Int × Mk)) (e : Ending) (w' : World) : Prop := ∃ v, e = .returned v ∧ ROwn encK 47 3 w.heap.size w' v m ∧ Below w.heap.size w w'

set_option maxRecDepth 100000 in
set_option maxHeartbeats 2000000 in
theorem all_any (h : MarksAt w b bm m n) (ha : (m.map (·.1)).Pairwise (· < ·)) (hn : n ≤ 1000000000) (hl : m.length ≤ 1000000) : Calls Try.prog 22 #[.pointer (some ⟨b, 0, none⟩)] w (AllPost w m) := by
  have hk : ∀ p ∈ m, -9223372036854775808 ≤ p.1 ∧ p.1 ≤ 9223372036854775807 := fun p hp => by have := h.ids p hp; omega
  have c0 := h.c0
  go_enter Try.func22, Try.ntmps22
  go_wp2_with fail
  refine (made_any h).mono ?_
  rintro e w' ⟨rfl, rfl⟩
  go_wp2_with fail
  refine (keys_call _ _).mono ?_
  rintro e w' ⟨rfl, rfl⟩
  go_wp2_with fail
  refine (sorted_call h.im hk hl ha).mono ?_
  rintro e w1 ⟨v, rfl, hkeys, hb1⟩
  have h1 := h.up hb1
  obtain ⟨A, cp, hv, hA1, hA2, hAs⟩ := hkeys.shape eltI
  rw [List.length_map] at hv hA1
  subst hv
  have HK := Lib.hid hk
  have HAs := Lib.hid hAs
  have Hb1 := Lib.hid hb1
  unfold maxLen at hA2
  clear hk hAs hkeys h c0 ha hb1
  go_wp2_with fail
  go_loopw [3, 16] (fun vt vi wr => ∃ k : Nat, k ≤ m.length ∧ vi = .int .i64 k ∧ ROwn encK 47 3 w1.heap.size wr vt (m.take k) ∧ Below w1.heap.size w1 wr) (fun _ vi _ => m.length - (intOf vi).toNat)
  case atStart => exact ⟨0, by omega, rfl, ROwn.nil _ _, Below.refl _ _⟩
  case round =>
    obtain ⟨k, hk, rfl, hown, hbel⟩ := hrel
    have hsz := hbel.size
    by_cases hlt : k < m.length
    · obtain ⟨⟨id, at_, adv⟩, hx⟩ : ∃ x, m[k]? = some x := ⟨_, List.getElem?_eq_getElem hlt⟩
      have hx1 : (m.map (·.1))[k]? = some id := by rw [List.getElem?_map, hx]; rfl
      obtain ⟨g, o, rfl, hg, hc⟩ := (HAs.out.up hbel).at_ eltI hx1
      have hcell := hc 0 _ rfl
      rw [Nat.mul_one, Nat.add_zero] at hcell
      have h2 := h1.up hbel
      have hlook : lookM m id = some (at_, adv) := lookM_of_mem h2.im.nodup (List.mem_of_getElem? hx)
      have HL := Lib.hid hlook
      have htk : m.take (k + 1) = m.take k ++ [(id, (at_, adv))] := by rw [List.take_succ_eq_append_getElem hlt]; congr 2; exact (List.getElem?_eq_some_iff.1 hx).2
      have HT := Lib.hid htk
      clear hc hx1 hlook htk hx
      have hlt' : (k : Int) < m.length := by omega
      go_wp2_with fail
      have C0 : ∀ x : UpW wr.heap.size wr, x.w.cell? ⟨b, 0, none⟩ = some (.map (some bm)) := fun x => (x.up.cell (p := ⟨b, 0, none⟩) h2.lt).trans h2.c0
      have C1 : ∀ y : UpW wr.heap.size wr, (Instr.lookup 60 (.map (some bm)) (.int .i64 id) false).run Try.prog y.w = .ok (encM (at_, adv)) y.w := fun y => by
        have := (h2.up y.up).im.look_some mapT keyT HL.out false
        simpa using this
      have fl0 := fieldMk0 (at_, adv)
      have fl1 := fieldMk1 (at_, adv)
      refine wp_region_mv_up_tail wr.heap.size 17 (by kernel_rfl) rfl rfl (fun _ _ _ _ h => h) (by kernel_rfl) ?_
      simp only [List.take_succ_cons, List.take_zero, List.drop_succ_cons, List.drop_zero]
      repeat (go_big_quiet_step (fail))
      refine wpQuiet_nil ?_
      rintro ⟨w2, hb2⟩
      dsimp only
      clear C0 C1 fl0 fl1
      obtain ⟨v', w', happ, hown', hb', _, _⟩ := append_elem eltK (hown.up hb2) (Nat.le_trans hsz hb2.size) (id, (at_, adv)) (by simp; omega) (by omega)
      rw [← HT.out] at hown'
      have HP := Lib.hid happ
      clear happ
      go_wp2_with (at_builtin; refine wpList_app_run rfl _ _ _ rfl rfl rfl HP.out ?_)
      go_roundw
      case rel => exact ⟨k + 1, by omega, by go_num, hown', (up2 hbel (hb2.mono (Nat.le_refl _))).trans (hb'.mono (by omega))⟩
      case measure => simp [intOf]; omega
    · have hkn : k = m.length := by omega
      subst hkn
      rw [List.take_length] at hown
      go_wp2_with fail
      go_ret
      exact ⟨_, rfl, hown.low Hb1.out.size, up2 Hb1.out hbel⟩
end Go.Proofs.Ytlnpjdihdemgmaa
