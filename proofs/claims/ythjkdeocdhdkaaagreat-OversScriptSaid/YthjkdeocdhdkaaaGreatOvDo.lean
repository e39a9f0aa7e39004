/- copyistlaw18.do: one act, in plain terms. -/
import Derived.Test.YthjkdeocdhdkaaaGreatOvAc
namespace Go.Proofs.YthjkdeocdhdkaaaGreat
open Go.RowKit
set_option linter.unusedVariables false
set_option linter.unusedSimpArgs false
/-- What an act leaves and hands back. -/
structure DoR where
  D : List OverD
  nx : Int
  ids : List Int
  err : Int
abbrev actV (a : Act18) : Value := .agg #[.int .i64 a.kind, .int .i64 a.id, .int .i64 a.f, .int .i64 a.t, .int .i64 a.nm, .int .i64 a.n, .bool a.fr, .bool a.re, .int .i64 a.vk, .int .i64 a.vn]
def doR (ev : Int) (D : List OverD) (nx : Int) (a : Act18) : DoR :=
  if pickI a.kind 10 = 0 ∨ pickI a.kind 10 = 1 then ⟨addD D nx a.f a.t a.fr a.re, addN D nx a.f a.t, [addR D nx a.f a.t], addE D a.f a.t⟩
  else if pickI a.kind 10 = 2 then ⟨dropD D a.id, nx, [], dropE D a.id⟩
  else if pickI a.kind 10 = 3 then ⟨moveD D a.id a.f a.t, nx, [], moveE D a.id a.f a.t⟩
  else if pickI a.kind 10 = 4 ∨ pickI a.kind 10 = 5 then ⟨putD D a.id a.nm a.vk a.vn, nx, [], putE D a.id a.nm⟩
  else if pickI a.kind 10 = 6 then ⟨takeD D a.id a.nm, nx, [], takeE D a.id a.nm⟩
  else if pickI a.kind 10 = 7 then ⟨insertedD D a.f a.n, nx, [], insE D a.f a.n⟩
  else ⟨delD ev a.f a.t D, nx, delI ev a.f a.t D, delE a.f a.t⟩
theorem wf_do {D : List OverD} {nx : Int} (h : WfD D nx) (ev : Int) (a : Act18) : WfD (doR ev D nx a).D (doR ev D nx a).nx := by
  unfold doR
  split
  · exact wf_add h _ _ _ _
  · split
    · exact wf_drop h _
    · split
      · exact wf_move h _ _ _
      · split
        · exact wf_put h _ _ _ _
        · split
          · exact wf_take h _ _
          · split
            · exact wf_ins h _ _
            · exact wf_del h _ _ _
theorem nx_do {D : List OverD} {nx : Int} (ev : Int) (a : Act18) : nx ≤ (doR ev D nx a).nx ∧ (doR ev D nx a).nx ≤ nx + 1 := by
  unfold doR addN
  split
  · dsimp only; split <;> omega
  · repeat' split
    all_goals (dsimp only; omega)
section
variable {w w' W : World} {D : List OverD} {b : Nat} {pr ev nx : Int} {S : Nat → Prop}
theorem OSt.tight' (h : OSt w b pr ev D nx S) : OSt w b pr ev D nx (fun k => S k ∧ k < w.heap.size) := by
  obtain ⟨v, L, h1, h2, h3⟩ := h
  exact ⟨v, L, h1, h2, fun k hk => ⟨h3 k hk, h1.lt hk⟩⟩
theorem SPost.slice {ret : Int} {e : Ending} (h : SPost w b pr ev S (.int .i64 ret) D nx e w') : e = .returned (.int .i64 ret) ∧ SPostS w b pr ev S [] ret D nx (.returned (.tuple #[.slice none 0 0, .int .i64 ret])) w' := by
  obtain ⟨he, S', h1, h2, h3⟩ := h
  exact ⟨he, _, rfl, ROwn.nil _ _, S', h1, h2, fun k hk => (h3 k hk).imp (fun h => h) fun h => ⟨h, by simp [Value.ownBlock]⟩⟩
/-- The world had one block more. -/
theorem SPostS.after {ids : List Int} {er : Int} {e : Ending} {o : Obj} {D' : List OverD} {nx' : Int} (h : SPostS (w.alloc o) b pr ev S ids er D' nx' e w') : SPostS w b pr ev S ids er D' nx' e w' := by
  have hb := below1 w o
  have hz := hb.size
  obtain ⟨gv, he, h1, S', h2, h3, h4⟩ := h
  exact ⟨gv, he, h1.low hz, S', h2, (Only.of_below hb).trans h3, fun k hk => (h4 k hk).imp (fun h => h) fun h => ⟨by omega, h.2⟩⟩
set_option maxRecDepth 100000 in
set_option maxHeartbeats 4000000 in
theorem do_any (h : OSt w b pr ev D nx S) (hw : WfD D nx) (a : Act18) (hn : nx ≤ 1000000000) : Calls Tryz.prog 7 #[.pointer (some ⟨b, 0, none⟩), actV a] w (SPostS w b pr ev S (doR ev D nx a).ids (doR ev D nx a).err (doR ev D nx a).D (doR ev D nx a).nx) := by
  have h1 := h.up (below1 w (.cells #[.int .i64 a.kind, .int .i64 a.id, .int .i64 a.f, .int .i64 a.t, .int .i64 a.nm, .int .i64 a.n, .bool a.fr, .bool a.re, .int .i64 a.vk, .int .i64 a.vn] 31))
  obtain ⟨p0, p1⟩ := pick_pos a.kind 10 (by omega)
  obtain ⟨ki, id, f, t, nm, n, fr, re, vk, vn⟩ := a
  dsimp only at *
  have hcase : pickI ki 10 = 0 ∨ pickI ki 10 = 1 ∨ pickI ki 10 = 2 ∨ pickI ki 10 = 3 ∨ pickI ki 10 = 4 ∨ pickI ki 10 = 5 ∨ pickI ki 10 = 6 ∨ pickI ki 10 = 7 ∨ pickI ki 10 = 8 ∨ pickI ki 10 = 9 := by omega
  clear p0 p1 h
  rcases hcase with hk | hk | hk | hk | hk | hk | hk | hk | hk | hk
  · have e : doR ev D nx ⟨ki, id, f, t, nm, n, fr, re, vk, vn⟩ = ⟨addD D nx f t fr re, addN D nx f t, [addR D nx f t], addE D f t⟩ := by simp [doR, hk]
    rw [e]
    have HC := Lib.hid (s_add h1 hw f t fr re hn)
    clear e h1 hw
    go_enter Tryz.func7, Tryz.ntmps7
    go_wp2_with fail
    refine (pick_any ki 10 _ (by omega) (by omega)).mono ?_
    rintro e w' ⟨rfl, rfl⟩
    rw [hk]
    go_wp2_with fail
    refine HC.out.mono ?_
    rintro e w2 ⟨rfl, S', h2, h3, h4⟩
    have hb := below1 w (.cells #[.int .i64 ki, .int .i64 id, .int .i64 f, .int .i64 t, .int .i64 nm, .int .i64 n, .bool fr, .bool re, .int .i64 vk, .int .i64 vn] 31)
    have hz := hb.size
    have hz2 := h3.size
    have hal := MapKept.heap_alloc w2 (.cells #[.int .i64 (addR D nx f t)] 3)
    have H2 := Lib.hid h2
    have H3 := Lib.hid h3
    have H4 := Lib.hid h4
    clear h2 h3 h4
    go_wp2_with fail
    go_ret2
    refine ⟨_, rfl, ?_, _, (OSt.tight' H2.out).up (below1 w2 _), ((Only.of_below hb).trans H3.out).alloc _, fun k hk => ?_⟩
    · refine ⟨by simp [cellsL], .inr ⟨w2.heap.size, 1, #[.int .i64 (addR D nx f t)], rfl, by omega, hal.1, by simp, by simp [maxLen], by simp, by simp [cellsL]⟩⟩
    · rcases H4.out k hk.1 with h5 | h5
      · exact .inl h5
      · refine .inr ⟨by omega, fun e => ?_⟩
        have h6 : w2.heap.size = k := Option.some.inj e
        have := hk.2
        omega
  · have e : doR ev D nx ⟨ki, id, f, t, nm, n, fr, re, vk, vn⟩ = ⟨addD D nx f t fr re, addN D nx f t, [addR D nx f t], addE D f t⟩ := by simp [doR, hk]
    rw [e]
    have HC := Lib.hid (s_add h1 hw f t fr re hn)
    clear e h1 hw
    go_enter Tryz.func7, Tryz.ntmps7
    go_wp2_with fail
    refine (pick_any ki 10 _ (by omega) (by omega)).mono ?_
    rintro e w' ⟨rfl, rfl⟩
    rw [hk]
    go_wp2_with fail
    refine HC.out.mono ?_
    rintro e w2 ⟨rfl, S', h2, h3, h4⟩
    have hb := below1 w (.cells #[.int .i64 ki, .int .i64 id, .int .i64 f, .int .i64 t, .int .i64 nm, .int .i64 n, .bool fr, .bool re, .int .i64 vk, .int .i64 vn] 31)
    have hz := hb.size
    have hz2 := h3.size
    have hal := MapKept.heap_alloc w2 (.cells #[.int .i64 (addR D nx f t)] 3)
    have H2 := Lib.hid h2
    have H3 := Lib.hid h3
    have H4 := Lib.hid h4
    clear h2 h3 h4
    go_wp2_with fail
    go_ret2
    refine ⟨_, rfl, ?_, _, (OSt.tight' H2.out).up (below1 w2 _), ((Only.of_below hb).trans H3.out).alloc _, fun k hk => ?_⟩
    · refine ⟨by simp [cellsL], .inr ⟨w2.heap.size, 1, #[.int .i64 (addR D nx f t)], rfl, by omega, hal.1, by simp, by simp [maxLen], by simp, by simp [cellsL]⟩⟩
    · rcases H4.out k hk.1 with h5 | h5
      · exact .inl h5
      · refine .inr ⟨by omega, fun e => ?_⟩
        have h6 : w2.heap.size = k := Option.some.inj e
        have := hk.2
        omega
  · have e : doR ev D nx ⟨ki, id, f, t, nm, n, fr, re, vk, vn⟩ = ⟨dropD D id, nx, [], dropE D id⟩ := by simp [doR, hk]
    rw [e]
    have HC := Lib.hid (s_drop h1 hw id)
    clear e h1 hw
    go_enter Tryz.func7, Tryz.ntmps7
    go_wp2_with fail
    refine (pick_any ki 10 _ (by omega) (by omega)).mono ?_
    rintro e w' ⟨rfl, rfl⟩
    rw [hk]
    go_wp2_with fail
    refine HC.out.mono ?_
    rintro e w2 hp
    obtain ⟨rfl, hq⟩ := SPost.slice hp
    have HQ := Lib.hid hq.after
    clear hp hq
    go_wp2_with fail
    go_ret2
    exact HQ.out
  · have e : doR ev D nx ⟨ki, id, f, t, nm, n, fr, re, vk, vn⟩ = ⟨moveD D id f t, nx, [], moveE D id f t⟩ := by simp [doR, hk]
    rw [e]
    have HC := Lib.hid (s_move h1 hw id f t)
    clear e h1 hw
    go_enter Tryz.func7, Tryz.ntmps7
    go_wp2_with fail
    refine (pick_any ki 10 _ (by omega) (by omega)).mono ?_
    rintro e w' ⟨rfl, rfl⟩
    rw [hk]
    go_wp2_with fail
    refine HC.out.mono ?_
    rintro e w2 hp
    obtain ⟨rfl, hq⟩ := SPost.slice hp
    have HQ := Lib.hid hq.after
    clear hp hq
    go_wp2_with fail
    go_ret2
    exact HQ.out
  · have e : doR ev D nx ⟨ki, id, f, t, nm, n, fr, re, vk, vn⟩ = ⟨putD D id nm vk vn, nx, [], putE D id nm⟩ := by simp [doR, hk]
    rw [e]
    have HC := Lib.hid (s_put h1 hw id nm vk vn)
    clear e h1 hw
    go_enter Tryz.func7, Tryz.ntmps7
    go_wp2_with fail
    refine (pick_any ki 10 _ (by omega) (by omega)).mono ?_
    rintro e w' ⟨rfl, rfl⟩
    rw [hk]
    go_wp2_with fail
    refine HC.out.mono ?_
    rintro e w2 hp
    obtain ⟨rfl, hq⟩ := SPost.slice hp
    have HQ := Lib.hid hq.after
    clear hp hq
    go_wp2_with fail
    go_ret2
    exact HQ.out
  · have e : doR ev D nx ⟨ki, id, f, t, nm, n, fr, re, vk, vn⟩ = ⟨putD D id nm vk vn, nx, [], putE D id nm⟩ := by simp [doR, hk]
    rw [e]
    have HC := Lib.hid (s_put h1 hw id nm vk vn)
    clear e h1 hw
    go_enter Tryz.func7, Tryz.ntmps7
    go_wp2_with fail
    refine (pick_any ki 10 _ (by omega) (by omega)).mono ?_
    rintro e w' ⟨rfl, rfl⟩
    rw [hk]
    go_wp2_with fail
    refine HC.out.mono ?_
    rintro e w2 hp
    obtain ⟨rfl, hq⟩ := SPost.slice hp
    have HQ := Lib.hid hq.after
    clear hp hq
    go_wp2_with fail
    go_ret2
    exact HQ.out
  · have e : doR ev D nx ⟨ki, id, f, t, nm, n, fr, re, vk, vn⟩ = ⟨takeD D id nm, nx, [], takeE D id nm⟩ := by simp [doR, hk]
    rw [e]
    have HC := Lib.hid (s_take h1 hw id nm)
    clear e h1 hw
    go_enter Tryz.func7, Tryz.ntmps7
    go_wp2_with fail
    refine (pick_any ki 10 _ (by omega) (by omega)).mono ?_
    rintro e w' ⟨rfl, rfl⟩
    rw [hk]
    go_wp2_with fail
    refine HC.out.mono ?_
    rintro e w2 hp
    obtain ⟨rfl, hq⟩ := SPost.slice hp
    have HQ := Lib.hid hq.after
    clear hp hq
    go_wp2_with fail
    go_ret2
    exact HQ.out
  · have e : doR ev D nx ⟨ki, id, f, t, nm, n, fr, re, vk, vn⟩ = ⟨insertedD D f n, nx, [], insE D f n⟩ := by simp [doR, hk]
    rw [e]
    have HC := Lib.hid (s_ins h1 hw f n)
    clear e h1 hw
    go_enter Tryz.func7, Tryz.ntmps7
    go_wp2_with fail
    refine (pick_any ki 10 _ (by omega) (by omega)).mono ?_
    rintro e w' ⟨rfl, rfl⟩
    rw [hk]
    go_wp2_with fail
    refine HC.out.mono ?_
    rintro e w2 hp
    obtain ⟨rfl, hq⟩ := SPost.slice hp
    have HQ := Lib.hid hq.after
    clear hp hq
    go_wp2_with fail
    go_ret2
    exact HQ.out
  · have e : doR ev D nx ⟨ki, id, f, t, nm, n, fr, re, vk, vn⟩ = ⟨delD ev f t D, nx, delI ev f t D, delE f t⟩ := by simp [doR, hk]
    rw [e]
    have HC := Lib.hid (s_del h1 hw f t)
    clear e h1 hw
    go_enter Tryz.func7, Tryz.ntmps7
    go_wp2_with fail
    refine (pick_any ki 10 _ (by omega) (by omega)).mono ?_
    rintro e w' ⟨rfl, rfl⟩
    rw [hk]
    go_wp2_with fail
    refine HC.out.mono ?_
    rintro e w2 hp
    have HQ := Lib.hid hp.after
    obtain ⟨gv, rfl, ho, _⟩ := hp
    obtain ⟨Ag, cg, rfl, _, _, _⟩ := ho.shape eltI
    clear ho
    go_wp2_with fail
    go_ret2
    exact HQ.out
  · have e : doR ev D nx ⟨ki, id, f, t, nm, n, fr, re, vk, vn⟩ = ⟨delD ev f t D, nx, delI ev f t D, delE f t⟩ := by simp [doR, hk]
    rw [e]
    have HC := Lib.hid (s_del h1 hw f t)
    clear e h1 hw
    go_enter Tryz.func7, Tryz.ntmps7
    go_wp2_with fail
    refine (pick_any ki 10 _ (by omega) (by omega)).mono ?_
    rintro e w' ⟨rfl, rfl⟩
    rw [hk]
    go_wp2_with fail
    refine HC.out.mono ?_
    rintro e w2 hp
    have HQ := Lib.hid hp.after
    obtain ⟨gv, rfl, ho, _⟩ := hp
    obtain ⟨Ag, cg, rfl, _, _, _⟩ := ho.shape eltI
    clear ho
    go_wp2_with fail
    go_ret2
    exact HQ.out
end
end Go.Proofs.YthjkdeocdhdkaaaGreat
