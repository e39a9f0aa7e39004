/- package column: FillText's closure. -/
import Derived.Test.YtphdkcdkhklicaaGreatDoorCfO
namespace Go.Proofs.YtphdkcdkhklicaaGreatDoor
open Go.RowKit Go.Lib
set_option linter.unusedVariables false
set_option linter.unusedSimpArgs false
section
variable {w w' : World}
theorem not_empty_enc {par : List Nat} (hN : ∀ c ∈ par, isN c) (h : par ≠ []) : ((encS par).toList == ([] : List UInt8)) = false ∧ ((encS par).toList = []) = False := by
  have : (encS par).toList ≠ [] := fun e => h (by
    have e1 : encS par = ⟨#[]⟩ := bytes_ext (by rw [ByteArray.toList_eq] at e; rw [e])
    have e2 : encS par = encS [] := e1
    have := congrArg chrs e2
    rwa [(chrs_encS hN).1, (chrs_encS (cs := []) (by simp)).1] at this)
  exact ⟨by rw [beq_eq_false_iff_ne]; exact this, eq_false this⟩
/-- What the closure turns: the two boxes. -/
def FlushP (w : World) (p o : Nat) (most tab : Nat) (par out : List Nat) (w' : World) : Prop :=
  Only (fun k => k = p ∨ k = o) w w' ∧ Blk w' p 9 #[.string (encS [])] ∧ Blk w' o 9 #[.string (encS (out ++ flC widN most tab par))]
set_option maxRecDepth 100000 in
set_option maxHeartbeats 4000000 in
theorem flush_ok {p o m t : Nat} {most tab : Nat} {par out : List Nat} (hpo : p ≠ o) (hp : Blk w p 9 #[.string (encS par)]) (ho : Blk w o 9 #[.string (encS out)]) (hm : Blk w m 3 #[.int .i64 most]) (ht : Blk w t 3 #[.int .i64 tab])
    (hN : ∀ c ∈ par, isN c) (hps : (encS par).size ≤ 16000) (hos : (encS out).size ≤ 200000000) (h1 : most ≤ 1000) (h2 : 1 ≤ tab) (h3 : tab ≤ 64) :
    Calls Tryz.prog 65 #[pAt p, pAt o, pAt m, pAt t] w fun e w' => e = .returned (.tuple #[]) ∧ FlushP w p o most tab par out w' := by
  have cp := hp.cell (j := 0) rfl
  by_cases h0 : par = []
  · subst h0
    have e0 : encS [] = ⟨#[]⟩ := rfl
    rw [e0] at cp
    have HP := Lib.hid hp
    have HO := Lib.hid ho
    clear hp ho hm ht hN hps hos
    go_enter Tryz.func65, Tryz.ntmps65
    go_wp2_with fail
    go_end0
    refine ⟨rfl, Only.refl _ _, HP.out, ?_⟩
    unfold flC; rw [if_pos rfl, List.append_nil]; exact HO.out
  · obtain ⟨n1, n2⟩ := not_empty_enc hN h0
    obtain ⟨PS, hPS⟩ : ∃ x, x = encS par := ⟨_, rfl⟩
    obtain ⟨OS, hOS⟩ : ∃ x, x = encS out := ⟨_, rfl⟩
    have hch : charsD PS.data.toList = some par := by rw [hPS, encS_list]; exact chars_enc _ hN
    rw [← hPS] at n1 n2 cp hp hps
    rw [← hOS] at ho hos
    obtain ⟨FS, hFS⟩ : ∃ x, x = encS (fillC widN most tab par) := ⟨_, rfl⟩
    have hF := fun w' => (hFS ▸ fill_ok hch hps most tab h1 h2 h3 w' : Calls Tryz.prog 66 #[.string PS, .int .i64 most, .int .i64 tab] w' fun e w'' => e = .returned (.string FS) ∧ Below w'.heap.size w' w'')
    have hfs : FS.size ≤ 1000000000 := by
      have e1 := fl_size widN most tab par hN
      unfold flC at e1
      rw [if_neg h0, ← encS_len, ← hFS, ← encS_len, ← hPS] at e1
      have e2 := capN_mono hps
      have e3 : capN 16000 = 256112000 := rfl
      rw [e3] at e2
      omega
    have hsum : (9223372036854775807 < OS.size + FS.size) = False := eq_false (by omega)
    have HF := fun w' => Lib.hid (hF w')
    have HP := Lib.hid hp
    have HO := Lib.hid ho
    have HD := Lib.hid hpo
    have C0 : ∀ x : UpW w.heap.size w, x.w.cell? ⟨p, 0, none⟩ = some (.string PS) := fun x => (hp.up x.up).cell (j := 0) rfl
    have C1 : ∀ x : UpW w.heap.size w, x.w.cell? ⟨o, 0, none⟩ = some (.string OS) := fun x => (ho.up x.up).cell (j := 0) rfl
    have C2 : ∀ x : UpW w.heap.size w, x.w.cell? ⟨m, 0, none⟩ = some (.int .i64 most) := fun x => (hm.up x.up).cell (j := 0) rfl
    have C3 : ∀ x : UpW w.heap.size w, x.w.cell? ⟨t, 0, none⟩ = some (.int .i64 tab) := fun x => (ht.up x.up).cell (j := 0) rfl
    have HOS := Lib.hid hOS
    have HFS := Lib.hid hFS
    have H0 := Lib.hid h0
    clear hF hPS hOS hFS hch hp ho hm ht hN h0 hps hos hfs
    go_enter Tryz.func65, Tryz.ntmps65
    go_wp2_with fail
    clear cp
    refine wp_region_mixS (fun k => k = p ∨ k = o) [6, 7] (.one [(0, true), (1, true), (2, true), (3, true)] 4 (.one [(5, true)] 6 (.one [] 7 (.done [])))) (by kernel_rfl) (fun c d v a w h => by cases d <;> exact h) (by kernel_rfl) ?_
    simp only [wpMixS, wpQ2, pk_nil, pk_cons, pushAt_zero, pushAt_succ, List.contains_cons, List.contains_nil, Bool.false_or, Bool.or_false, Bool.true_or, Bool.or_true, Nat.reduceBEq, Nat.reduceEqDiff]
    repeat (first | go_big_quiet_step (fail) | refine wpQuiet_nil ?_)
    clear C0 C1 C2 C3
    go_wp2_with fail
    refine (HF _).out.mono ?_
    rintro e w2 ⟨rfl, hb2⟩
    have hb2' : Below w.heap.size w w2 := (Below.refl _ w).drew.trans hb2
    have ho2 := HO.out.up hb2'
    have hp2 := HP.out.up hb2'
    have HO2 := Lib.hid ho2
    have HP2 := Lib.hid hp2
    clear hb2
    go_wp2_with fail
    refine thenQ_normal ⟨⟨⟨_, hb2'⟩, rfl⟩, ?_⟩
    repeat (first | go_big_quiet_step (fail) | refine wpQuiet_nil ?_)
    have k1 := ho2.cell (j := 0) rfl
    have f1 := ho2.fz 0
    clear ho2 hp2
    go_wp2_with fail
    have hon : Only (fun k => k = p ∨ k = o) w (w2.setCell ⟨o, 0, none⟩ (.string (OS ++ FS))) := (Only.of_below (S := fun k => k = p ∨ k = o) hb2').setCell (p := ⟨o, 0, none⟩) (.inr rfl) _
    refine thenQ_normal ⟨⟨⟨_, hon⟩, rfl⟩, ?_⟩
    clear k1 f1
    have HO3 := Lib.hid (HO2.out.set (j := 0) (by simp) (.string (OS ++ FS)))
    have HP3 := Lib.hid (HP2.out.kept (w' := w2.setCell ⟨o, 0, none⟩ (.string (OS ++ FS))) (Below.heap_setCell _ _ _ _ HD.out))
    clear HO2 HP2
    generalize w2.setCell ⟨o, 0, none⟩ (.string (OS ++ FS)) = w3 at *
    have k1 := HP3.out.cell (j := 0) rfl
    have f1 := HP3.out.fz 0
    go_wp2_with fail
    have hon2 : Only (fun k => k = p ∨ k = o) w (w3.setCell ⟨p, 0, none⟩ (.string ⟨#[]⟩)) := hon.setCell (p := ⟨p, 0, none⟩) (.inl rfl) _
    refine thenQ_normal ⟨⟨⟨_, hon2⟩, rfl⟩, ?_⟩
    clear k1 f1
    go_wp2_with fail
    go_end0
    refine ⟨rfl, hon2, HP3.out.set (j := 0) (by simp) (.string ⟨#[]⟩), ?_⟩
    have := HO3.out.kept (w' := w3.setCell ⟨p, 0, none⟩ (.string ⟨#[]⟩)) (Below.heap_setCell _ _ _ _ (fun e => HD.out e.symm))
    rw [HOS.out, HFS.out] at this
    unfold flC
    rw [if_neg H0.out, ← encS_append]
    exact this
end
end Go.Proofs.YtphdkcdkhklicaaGreatDoor
