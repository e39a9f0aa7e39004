/- copyistlaw16.MarksIn returns true. -/
import Derived.Test.YtlnpjdihdemgmaaMkT
import Derived.Test.YtlnpjdihdemgmaaMkY
namespace Go.Proofs.Ytlnpjdihdemgmaa
open Go.RowKit
set_option linter.unusedVariables false

theorem pw_at {α : Type} {R : α → α → Prop} {l : List α} (h : l.Pairwise R) {k : Nat} {x y : α} (hx : l[k]? = some x) (hy : l[k + 1]? = some y) : R x y := by
  obtain ⟨h1, rfl⟩ := List.getElem?_eq_some_iff.1 hx
  obtain ⟨h2, rfl⟩ := List.getElem?_eq_some_iff.1 hy
  exact List.pairwise_iff_getElem.1 h k (k + 1) h1 h2 (by omega)
theorem asc_at {m : List (Int × Mk)} (h : (m.map (·.1)).Pairwise (· < ·)) {k : Nat} {p q : Int × Mk} (hp : m[k]? = some p) (hq : m[k + 1]? = some q) : p.1 < q.1 :=
  pw_at h (k := k) (by rw [List.getElem?_map, hp]; rfl) (by rw [List.getElem?_map, hq]; rfl)
def inR (f t : Int) (p : Int × Mk) : Bool := decide (f ≤ p.2.1) && decide (p.2.1 ≤ t)
def cntN (f t : Int) (m : List (Int × Mk)) (k : Nat) : Nat := ((m.take k).filter (inR f t)).length
theorem cntN_zero (f t : Int) (m : List (Int × Mk)) : cntN f t m 0 = 0 := by simp [cntN]
theorem cntN_le (f t : Int) (m : List (Int × Mk)) (k : Nat) : cntN f t m k ≤ k := by
  unfold cntN
  have h1 := List.length_filter_le (inR f t) (m.take k)
  have h2 := List.length_take_le k m
  omega
theorem cntN_yes {f t : Int} {m : List (Int × Mk)} {k : Nat} {p : Int × Mk} (hp : m[k]? = some p) (h : inR f t p = true) : cntN f t m (k + 1) = cntN f t m k + 1 := by
  obtain ⟨h1, rfl⟩ := List.getElem?_eq_some_iff.1 hp
  unfold cntN
  rw [List.take_succ_eq_append_getElem h1, List.filter_append, List.length_append]
  simp [h]
theorem cntN_no {f t : Int} {m : List (Int × Mk)} {k : Nat} {p : Int × Mk} (hp : m[k]? = some p) (h : inR f t p = false) : cntN f t m (k + 1) = cntN f t m k := by
  obtain ⟨h1, rfl⟩ := List.getElem?_eq_some_iff.1 hp
  unfold cntN
  rw [List.take_succ_eq_append_getElem h1, List.filter_append, List.length_append]
  simp [h]
theorem in_len {f t : Int} {m : List (Int × Mk)} {l : List Int} (hn : (m.map (·.1)).Nodup) (hl : l.Nodup) (h : ∀ k, k ∈ l ↔ ∃ x, (k, x) ∈ m ∧ f ≤ x.1 ∧ x.1 ≤ t) : cntN f t m m.length = l.length := by
  have hs : ((m.filter (inR f t)).map (·.1)).Nodup := (List.filter_sublist.map _).nodup hn
  have e : ∀ k, k ∈ (m.filter (inR f t)).map (·.1) ↔ k ∈ l := fun k => by
    rw [h k]
    constructor
    · intro hk
      obtain ⟨p, hp, rfl⟩ := List.mem_map.1 hk
      obtain ⟨h1, h2⟩ := List.mem_filter.1 hp
      simp only [inR, Bool.and_eq_true, decide_eq_true_eq] at h2
      exact ⟨p.2, h1, h2⟩
    · rintro ⟨x, h1, h2⟩
      exact List.mem_map.2 ⟨(k, x), List.mem_filter.2 ⟨h1, by simp only [inR, Bool.and_eq_true, decide_eq_true_eq]; exact h2⟩, rfl⟩
  have h1 := nodup_len _ l hs (fun k hk => (e k).1 hk)
  have h2 := nodup_len l _ hl (fun k hk => (e k).2 hk)
  unfold cntN
  rw [List.take_length]
  simp only [List.length_map] at h1 h2
  omega
theorem do_next (m : List (Int × Mk)) (n : Int) (a : Act6) : ((pickI a.kind 8 < 2 ∧ (doR m n a).err = 0) ∧ (doR m n a).ret = n ∧ (doR m n a).n = n + 1) ∨ (¬ (pickI a.kind 8 < 2 ∧ (doR m n a).err = 0) ∧ (doR m n a).n = n) := by
  obtain ⟨p0, p1⟩ := pick_pos a.kind 8 (by omega)
  by_cases hk : pickI a.kind 8 < 2
  · unfold doR
    rw [if_pos (by omega)]
    unfold addR
    split
    · exact .inr ⟨by simp, rfl⟩
    · split
      · exact .inr ⟨by simp, rfl⟩
      · exact .inl ⟨⟨hk, rfl⟩, rfl, rfl⟩
  · refine .inr ⟨fun h => hk h.1, ?_⟩
    unfold doR
    rw [if_neg (by omega)]
    split
    · unfold dropR; split <;> rfl
    · split
      · unfold moveR; split
        · rfl
        · split <;> rfl
      · split
        · unfold setR; split <;> rfl
        · split
          · unfold insR; split
            · rfl
            · split
              · rfl
              · split <;> rfl
          · unfold delR; split <;> rfl

set_option maxRecDepth 100000 in
set_option maxHeartbeats 8000000 in
theorem in_true (A : Option Addr) (cap : Nat) (l : List Act6) (from_ to : Int) (w : World) (hA : ASl w A l) (hlm : l.length ≤ 9223372036854775807) :
    Calls Try.prog 8 #[.slice A l.length cap, .int .i64 from_, .int .i64 to] w fun e w' => e = .returned (.bool true) ∧ Below w.heap.size w w' := by
  by_cases hl : l.length ≤ 60
  · have hl' : (l.length : Int) ≤ 60 := by omega
    go_enter Try.func8, Try.ntmps8
    go_wp2_with fail
    refine (lives_true w).mono ?_
    rintro e w1 ⟨rfl, hB1⟩
    go_wp2_with fail
    refine (new_any w1).mono ?_
    rintro e w2 ⟨rfl, h2, hB2, hz2⟩
    have hBw := up2 hB1 hB2
    have hle := hB1.size
    clear hB1 hB2
    go_wp2_with fail
    go_loopw [8, 9] (fun vn vi wz => ∃ (j : Nat) (m : List (Int × Mk)) (n : Int), j ≤ l.length ∧ vi = .int .i64 j ∧ vn = .int .i64 n ∧ DoInv m n j ∧ MarksAt wz (w1.heap.size + 1) w1.heap.size m n ∧ Below w.heap.size w wz) (fun _ vi _ => l.length - (intOf vi).toNat)
    case atStart => exact ⟨0, [], 0, by omega, rfl, rfl, DoInv.start, h2, hBw⟩
    case round =>
      clear h2 hBw hz2
      obtain ⟨j, m, n, hj, rfl, rfl, hi, hm, hbw⟩ := hrel
      have hn0 := hi.n0
      have hn1 := hi.n1
      have hml := hi.len
      by_cases hlt : j < l.length
      · obtain ⟨bs, off, act, rfl, hact, hAct⟩ := hA.at_ hlt hbw
        obtain ⟨bs', off', act', hAe, hact', hActAll⟩ := hA.at_ hlt (Below.refl _ w)
        have hst := hi.step hm.ids act
        have hnx := do_next m n act
        have hlt' : (j : Int) < l.length := by omega
        have hbsl : bs < wr.heap.size := lt_of_cell hAct.1
        have hbs : bs < w.heap.size := by
          obtain ⟨b1, o1, e1, hl1, _⟩ := hA (by omega)
          cases e1; exact hl1
        clear hact hact' hActAll hAe
        obtain ⟨k0, k1, k2, k3, k4, k5⟩ := id hAct
        go_wp2_with fail
        refine (do_any hm act hn0 (by omega)).mono ?_
        rintro e w5 ⟨rfl, h5, ho5⟩
        have hAct5 := hAct.kept (ho5.block bs (by omega) (fun hs => by rcases hs with hs | hs <;> omega))
        have hbw5 := Only.fin hbw ho5 (by omega) (by omega)
        have q0 := hAct5.1
        clear k0 k1 k2 k3 k4 k5 hAct hAct5 hm hbw ho5
        generalize doR m n act = r at *
        obtain ⟨rm, rn, rret, rerr⟩ := r
        dsimp only at *
        rcases hnx with ⟨⟨hp, he⟩, hr, hn⟩ | ⟨hno, hn⟩
        · subst he hr hn
          go_wp2_with (go_at_call 12; refine (pick_any _ _ _ (by omega) (by omega)).mono ?_; rintro e w' ⟨rfl, rfl⟩)
          exact ⟨⟨j + 1, _, _, by omega, by go_num, rfl, hst, h5, hbw5⟩, by simp [intOf]; omega⟩
        · subst hn
          by_cases hp : pickI act.kind 8 < 2
          · have he : (rerr == 0) = false := by simpa using fun h => hno ⟨hp, h⟩
            clear hno
            go_wp2_with (go_at_call 12; refine (pick_any _ _ _ (by omega) (by omega)).mono ?_; rintro e w' ⟨rfl, rfl⟩)
            exact ⟨⟨j + 1, _, _, by omega, by go_num, rfl, hst, h5, hbw5⟩, by simp [intOf]; omega⟩
          · have hp' : 2 ≤ pickI act.kind 8 := by omega
            clear hno hp
            go_wp2_with (go_at_call 12; refine (pick_any _ _ _ (by omega) (by omega)).mono ?_; rintro e w' ⟨rfl, rfl⟩)
            exact ⟨⟨j + 1, _, _, by omega, by go_num, rfl, hst, h5, hbw5⟩, by simp [intOf]; omega⟩
      · have hjl : j = l.length := by omega
        subst hjl
        clear hlt
        have HIds := Lib.hid hm.ids
        have HAsc := Lib.hid hi.asc
        have HNd := Lib.hid hm.im.nodup
        go_wp2_with fail
        refine (all_any hm hi.asc (by omega) (by omega)).mono ?_
        rintro e w6 ⟨v6, rfl, hown6, hb6⟩
        have hm6 := hm.up hb6
        have hbw6 := up2 hbw hb6
        clear hm hbw hb6
        go_wp2_with fail
        refine (in_any hm6 from_ to (by omega)).mono ?_
        rintro e w7 ⟨v7, ls, rfl, hnd, hmem, hpw, hown7, hb7⟩
        have hm7 := hm6.up hb7
        have hbw7 := up2 hbw6 hb7
        have hown67 := hown6.up hb7
        obtain ⟨A5, cp5, rfl, hA51, hA52, hAs5⟩ := hown67.shape eltK
        obtain ⟨A7, cp7, rfl, hA71, hA72, hAs7⟩ := hown7.shape eltI
        have hlen := in_len HNd.out hnd hmem
        have HLen := Lib.hid hlen
        have HMem := Lib.hid hmem
        have HPw := Lib.hid hpw
        have HAs5 := Lib.hid hAs5
        have HAs7 := Lib.hid hAs7
        have hcl := cntN_le from_ to m m.length
        rw [hlen] at hcl
        clear hm6 hbw6 hb7 hown6 hown7 hown67 hA51 hA52 hA71 hA72 hAs5 hAs7 hlen hmem hpw hnd
        obtain ⟨wo, rfl⟩ : ∃ wo : World, wo = wr := ⟨_, rfl⟩
        go_wp2_with fail
        go_loopw [14, 15] (fun vc vi wz => ∃ k : Nat, k ≤ m.length ∧ vi = .int .i64 k ∧ vc = .int .i64 (cntN from_ to m k) ∧ Below w7.heap.size w7 wz) (fun _ vi _ => m.length - (intOf vi).toNat)
        case atStart => exact ⟨0, by omega, rfl, by rw [cntN_zero]; rfl, Below.refl _ _⟩
        case round =>
          obtain ⟨k, hk, rfl, rfl, hbel⟩ := hrel
          have hck := cntN_le from_ to m k
          by_cases hlt : k < m.length
          · obtain ⟨⟨id, at_, adv⟩, hx⟩ : ∃ x, m[k]? = some x := ⟨_, List.getElem?_eq_getElem hlt⟩
            obtain ⟨g, o, hAe, hg, hc⟩ := (HAs5.out.up hbel).at_ eltK hx
            obtain rfl := hAe
            have c0 := hc 0 _ rfl
            have c1 := hc 1 _ rfl
            have c2 := hc 2 _ rfl
            simp only [← Nat.add_assoc, Nat.add_zero] at c0 c1 c2
            have hids := HIds.out _ (List.mem_of_getElem? hx)
            obtain ⟨i0, i1⟩ := hids
            dsimp only at i0 i1
            have hlt' : (k : Int) < m.length := by omega
            have hal := MapKept.heap_alloc wr (.cells #[.int .i64 id, .int .i64 at_, .bool adv] 47)
            obtain ⟨W2, hW2⟩ : ∃ W2, wr.alloc (.cells #[.int .i64 id, .int .i64 at_, .bool adv] 47) = W2 := ⟨_, rfl⟩
            have hbel2 : Below w7.heap.size w7 W2 := by rw [← hW2]; exact up2 hbel (below1 wr _)
            have x0 : W2.cell? ⟨wr.heap.size, 0, none⟩ = some (.int .i64 id) := by rw [← hW2]; simp only [World.cell?, hal.1]; rfl
            have x1 : W2.cell? ⟨wr.heap.size, 1, none⟩ = some (.int .i64 at_) := by rw [← hW2]; simp only [World.cell?, hal.1]; rfl
            have g1 : decide (id < 0) = false := by simpa using i0
            have g2 : decide (n ≤ id) = false := by simpa using i1
            have HX := Lib.hid hx
            clear hc hal hx
            have fin : ∀ W3 : World, W3.heap = W2.heap → W3.os = W2.os → W3.tape = W2.tape → W3.output = W2.output → Below w7.heap.size w7 W3 := fun W3 e1 e2 e3 e4 => ⟨e2.trans hbel2.os, e3.trans hbel2.tape, e4.trans hbel2.output, by rw [e1]; exact hbel2.size, fun i hi => by rw [e1]; exact hbel2.block i hi⟩
            have HF := Lib.hid fin
            clear fin hbel2
            have hcase : (from_ ≤ at_ ∧ at_ ≤ to) ∨ at_ < from_ ∨ (from_ ≤ at_ ∧ to < at_) := by omega
            rcases Nat.eq_zero_or_pos k with rfl | hpos
            · simp only [Nat.zero_mul, Nat.add_zero] at c0 c1 c2
              clear hbel
              rcases hcase with ⟨q1, q2⟩ | q1 | ⟨q1, q2⟩
              · have HC := Lib.hid (cntN_yes (f := from_) (t := to) HX.out (by simp [inR]; omega))
                go_wp2_with fail
                go_quiet (fail)
                go_wp2_with fail
                go_roundw
                case rel => exact ⟨0 + 1, by omega, by first | rfl | go_num, by rw [HC.out]; go_num, HF.out _ rfl rfl rfl rfl⟩
                case measure => simp [intOf]; omega
              · have HC := Lib.hid (cntN_no (f := from_) (t := to) HX.out (by simp [inR]; omega))
                go_wp2_with fail
                go_quiet (fail)
                go_wp2_with fail
                go_roundw
                case rel => exact ⟨0 + 1, by omega, by first | rfl | go_num, by rw [HC.out], HF.out _ rfl rfl rfl rfl⟩
                case measure => simp [intOf]; omega
              · have HC := Lib.hid (cntN_no (f := from_) (t := to) HX.out (by simp [inR]; omega))
                go_wp2_with fail
                go_quiet (fail)
                go_wp2_with fail
                go_roundw
                case rel => exact ⟨0 + 1, by omega, by first | rfl | go_num, by rw [HC.out], HF.out _ rfl rfl rfl rfl⟩
                case measure => simp [intOf]; omega
            · obtain ⟨k', rfl⟩ : ∃ k', k = k' + 1 := ⟨k - 1, by omega⟩
              obtain ⟨⟨pid, pat, padv⟩, hy⟩ : ∃ x, m[k']? = some x := ⟨_, List.getElem?_eq_getElem (by omega)⟩
              have hlt2 := asc_at HAsc.out hy HX.out
              dsimp only at hlt2
              obtain ⟨g', o', hAe, hg', hc⟩ := (HAs5.out.up hbel).at_ eltK hy
              cases hAe
              have pc := hc 0 _ rfl
              simp only [Nat.add_zero] at pc
              have pw : W2.cell? ⟨g, o + k' * 3, none⟩ = some (.int .i64 pid) := by rw [← hW2]; exact ((below1 wr _).cell (p := ⟨g, o + k' * 3, none⟩) hg').trans pc
              have g3 : decide (id ≤ pid) = false := by simpa using hlt2
              have g0 : decide ((0 : Int) < (k' : Int) + 1) = true := by first | (simp; done) | (simp; omega)
              have wr1 : IntKind.i64.wrap (k' : Int) = k' := IntWalk.i64_in _ (by omega)
              have hk0 : (0 : Int) ≤ k' := by omega
              have hk1 : (k' : Int) < m.length := by omega
              clear hc pc hy hbel hpos hlt2
              rcases hcase with ⟨q1, q2⟩ | q1 | ⟨q1, q2⟩
              · have HC := Lib.hid (cntN_yes (f := from_) (t := to) HX.out (by simp [inR]; omega))
                go_wp2_with fail
                go_quiet (fail)
                go_wp2_with fail
                go_roundw
                case rel => exact ⟨k' + 1 + 1, by omega, by first | rfl | go_num, by rw [HC.out]; go_num, HF.out _ rfl rfl rfl rfl⟩
                case measure => simp [intOf]; omega
              · have HC := Lib.hid (cntN_no (f := from_) (t := to) HX.out (by simp [inR]; omega))
                go_wp2_with fail
                go_quiet (fail)
                go_wp2_with fail
                go_roundw
                case rel => exact ⟨k' + 1 + 1, by omega, by first | rfl | go_num, by rw [HC.out], HF.out _ rfl rfl rfl rfl⟩
                case measure => simp [intOf]; omega
              · have HC := Lib.hid (cntN_no (f := from_) (t := to) HX.out (by simp [inR]; omega))
                go_wp2_with fail
                go_quiet (fail)
                go_wp2_with fail
                go_roundw
                case rel => exact ⟨k' + 1 + 1, by omega, by first | rfl | go_num, by rw [HC.out], HF.out _ rfl rfl rfl rfl⟩
                case measure => simp [intOf]; omega
          · have hkn : k = m.length := by omega
            subst hkn
            rw [HLen.out]
            obtain ⟨wo2, rfl⟩ : ∃ wo2 : World, wo2 = wr := ⟨_, rfl⟩
            have hbo := hbel
            clear hbel hlt hck hk
            go_wp2_with fail
            go_loopw [17] (fun vi wz => ∃ k : Nat, k ≤ ls.length ∧ vi = .int .i64 k ∧ Below w7.heap.size w7 wz) (fun vi _ => ls.length - (intOf vi).toNat)
            case atStart => exact ⟨0, by omega, rfl, hbo⟩
            case round =>
              clear hbo
              obtain ⟨k, hk, rfl, hbel⟩ := hrel
              by_cases hlt : k < ls.length
              · obtain ⟨x, hx⟩ : ∃ x, ls[k]? = some x := ⟨_, List.getElem?_eq_getElem hlt⟩
                obtain ⟨xv, hxm, hx1, hx2⟩ := (HMem.out x).1 (List.mem_of_getElem? hx)
                have hlx : lookM m x = some xv := lookM_of_mem HNd.out hxm
                have HLx := Lib.hid hlx
                obtain ⟨xa, xb⟩ := xv
                dsimp only at hx1 hx2
                obtain ⟨g, o, hAe, hg, hc⟩ := (HAs7.out.up hbel).at_ eltI hx
                obtain rfl := hAe
                have c0 := hc 0 _ rfl
                rw [Nat.mul_one, Nat.add_zero] at c0
                have hlt' : (k : Int) < ls.length := by omega
                have HX := Lib.hid hx
                clear hc hx hxm hlx
                rcases Nat.eq_zero_or_pos k with rfl | hpos
                · simp only [Nat.add_zero] at c0
                  go_wp2_with fail
                  refine (at_yes (hm7.up hbel) HLx.out).mono ?_
                  rintro e w8 ⟨rfl, hb8⟩
                  have hbel8 := up2 hbel hb8
                  clear hb8 hbel c0
                  go_wp2_with fail
                  go_roundw
                  case rel => exact ⟨1, by omega, rfl, hbel8⟩
                  case measure => simp [intOf]; omega
                · obtain ⟨k', rfl⟩ : ∃ k', k = k' + 1 := ⟨k - 1, by omega⟩
                  obtain ⟨y, hy⟩ : ∃ y, ls[k']? = some y := ⟨_, List.getElem?_eq_getElem (by omega)⟩
                  obtain ⟨yv, hym, hy1, hy2⟩ := (HMem.out y).1 (List.mem_of_getElem? hy)
                  have hly : lookM m y = some yv := lookM_of_mem HNd.out hym
                  have HLy := Lib.hid hly
                  obtain ⟨ya, yb⟩ := yv
                  have hcf := (cf_lt m y x).1 (pw_at HPw.out hy HX.out)
                  simp only [mkI, HLx.out, HLy.out, Option.getD_some] at hcf
                  have HCf := Lib.hid hcf
                  have hs7 := fun (W : World) (hW : Below w7.heap.size w7 W) => (HAs7.out.up hW).at_ eltI hy
                  have hs8 := fun (W : World) (hW : Below w7.heap.size w7 W) => (HAs7.out.up hW).at_ eltI HX.out
                  have HS7 := Lib.hid hs7
                  have HS8 := Lib.hid hs8
                  have wr1 : IntKind.i64.wrap (k' : Int) = k' := IntWalk.i64_in _ (by omega)
                  have hk0 : (0 : Int) ≤ k' := by omega
                  have hk1 : (k' : Int) < ls.length := by omega
                  clear hym hly hcf hs7 hs8 hpos hy
                  go_wp2_with fail
                  refine (at_yes (hm7.up hbel) HLx.out).mono ?_
                  rintro e w8 ⟨rfl, hb8⟩
                  have hbel8 := up2 hbel hb8
                  obtain ⟨g1, o1, hAe, hg1, hc⟩ := HS7.out _ hbel8
                  cases hAe
                  have p0 := hc 0 _ rfl
                  rw [Nat.mul_one, Nat.add_zero] at p0
                  clear hb8 hbel c0 hc
                  go_wp2_with fail
                  refine (at_yes (hm7.up hbel8) HLy.out).mono ?_
                  rintro e w9 ⟨rfl, hb9⟩
                  have hbel9 := up2 hbel8 hb9
                  obtain ⟨g1, o1, hAe, hg2, hc⟩ := HS7.out _ hbel9
                  cases hAe
                  have r0 := hc 0 _ rfl
                  rw [Nat.mul_one, Nat.add_zero] at r0
                  obtain ⟨g1, o1, hAe, hg3, hc'⟩ := HS8.out _ hbel9
                  cases hAe
                  have s0 := hc' 0 _ rfl
                  rw [Nat.mul_one, Nat.add_zero] at s0
                  clear hb9 hbel8 p0 hc hc'
                  rcases HCf.out with hcf | ⟨hcf, hyx⟩
                  · have d1 : decide (xa < ya) = false := by simp; omega
                    have d2 : (ya == xa) = false := by simp; omega
                    clear hcf
                    go_wp2_with fail
                    go_quiet (fail)
                    go_wp2_with fail
                    go_roundw
                    case rel => exact ⟨k' + 1 + 1, by omega, by first | rfl | go_num, ⟨hbel9.os, hbel9.tape, hbel9.output, hbel9.size, hbel9.block⟩⟩
                    case measure => simp [intOf]; omega
                  · (try dsimp only at hcf)
                    subst hcf
                    have d1 : decide (ya < ya) = false := by simp
                    have d2 : (ya == ya) = true := by simp
                    have d3 : decide (x ≤ y) = false := by simpa using hyx
                    clear hyx
                    go_wp2_with fail
                    go_quiet (fail)
                    go_wp2_with fail
                    go_roundw
                    case rel => exact ⟨k' + 1 + 1, by omega, by first | rfl | go_num, ⟨hbel9.os, hbel9.tape, hbel9.output, hbel9.size, hbel9.block⟩⟩
                    case measure => simp [intOf]; omega
              · have hkn : k = ls.length := by omega
                subst hkn
                have hm8 := hm7.up hbel
                go_wp2_with (go_at_call 19; refine (many_any hm8).mono ?_; rintro e w' ⟨rfl, rfl⟩)
                go_ret
                exact ⟨rfl, up2 hbw7 hbel⟩
  · have hl' : (60 : Int) < l.length := by omega
    go_enter Try.func8, Try.ntmps8
    go_wp2_with fail
    refine (lives_true w).mono ?_
    rintro e w1 ⟨rfl, hB1⟩
    go_wp2_with fail
    go_ret
    exact ⟨rfl, hB1⟩
end Go.Proofs.Ytlnpjdihdemgmaa
