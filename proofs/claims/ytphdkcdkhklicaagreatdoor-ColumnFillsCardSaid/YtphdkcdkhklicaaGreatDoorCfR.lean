/- package column: FillText, the walk. -/
import Derived.Test.YtphdkcdkhklicaaGreatDoorCfQ
namespace Go.Proofs.YtphdkcdkhklicaaGreatDoor
open Go.RowKit Go.Shelf Go.Lib
set_option linter.unusedVariables false
set_option linter.unusedSimpArgs false
section
attribute [local go_sem] Oper.semAt_some
variable {w w' : World} {N : Nat}
set_option maxRecDepth 100000 in
set_option maxHeartbeats 8000000 in
theorem fillText_ok (hT : Tabs N w) {s : ByteArray} {cs : List Nat} (h : charsD s.data.toList = some cs) (hs : s.size ≤ 16000) (most tab : Nat) (m1 : 1 ≤ most) (m2 : most ≤ 1000) (t1 : 1 ≤ tab) (t2 : tab ≤ 64) (hlen : (fillT widN most tab cs).length ≤ 65536) :
    Calls Tryz.prog 18 #[.string s, .int .i64 most, .int .i64 tab] w fun e w' => e = .returned (.tuple #[.string (encS (fillT widN most tab cs)), .int .i64 0]) ∧ Below w.heap.size w w' := by
  have ec := enc_chars _ _ _ (Nat.le_refl _) h
  have hv : vld s = true := by rw [vld_chars, h]; rfl
  have HV := fun w' (hT : Tabs N w') => Lib.hid (hv ▸ valid_any s w' (by omega) hT : Calls Tryz.prog 64 #[.string s] w' fun e w'' => e = .returned (.bool true) ∧ Below w'.heap.size w' w'')
  have HTB := fun w' => Lib.hid (tabbed_ok tab t1 t2 w')
  have HR := fun w' => Lib.hid (crows_ok s w')
  have HTT := Lib.hid hT
  have HEC := Lib.hid ec
  have HC := Lib.hid h
  have HS := Lib.hid hs
  have HLEN := Lib.hid hlen
  have HTAB := Lib.hid (⟨t1, t2⟩ : _ ∧ _)
  have HM := Lib.hid (⟨m1, m2⟩ : _ ∧ _)
  have d1 : decide ((most : Int) < 1) = false := decide_eq_false (by omega)
  have d2 : decide ((1000 : Int) < (most : Int)) = false := decide_eq_false (by omega)
  have d3 : (most < 1) = False := eq_false (by omega)
  have d4 : (1000 < most) = False := eq_false (by omega)
  clear hT ec h hs hlen hv m1 m2 t1 t2
  refine (callsIn_wide (n := 6)).1 ?_
  refine callsIn_of_wp_marks Tryz.func18 rfl trivial ?_ rfl
  simp only [Tryz.ntmps18, List.size_toArray, List.length_cons, List.length_nil, Nat.reduceAdd, Nat.reduceSub, Array.replicate_succ, Array.replicate_zero, List.push_toArray, List.append_toArray, List.nil_append, List.cons_append]
  gi_wp2_with fail
  have q0 := Blk.made w 3 #[.int .i64 most]
  have q1 := Blk.made (w.alloc (.cells #[.int .i64 most] 3)) 3 #[.int .i64 tab]
  rw [World.size_alloc] at q1
  have q2 := q0.up (below1 _ (.cells #[.int .i64 tab] 3))
  have qb : Below w.heap.size w ((w.alloc (.cells #[.int .i64 most] 3)).alloc (.cells #[.int .i64 tab] 3)) := up2 (below1 _ _) (below1 _ _)
  have qz : ((w.alloc (.cells #[.int .i64 most] 3)).alloc (.cells #[.int .i64 tab] 3)).heap.size = w.heap.size + 2 := by simp
  clear q0
  generalize (w.alloc (.cells #[.int .i64 most] 3)).alloc (.cells #[.int .i64 tab] 3) = W0 at *
  refine ⟨trivial, (callsIn_wide.2 (HV W0 (HTT.out.up qb)).out).mono ?_⟩
  rintro e w1 ⟨rfl, hb1⟩
  have M1 := q2.up hb1
  have T1 := q1.up hb1
  have B1 := Lib.hid (up2 qb hb1)
  have Z1 := Lib.hid (show w.heap.size + 2 ≤ w1.heap.size by have := hb1.size; omega)
  clear q1 q2 qb qz hb1
  have cm := M1.cell (j := 0) rfl
  have ct := T1.cell (j := 0) rfl
  have HM1 := Lib.hid M1
  have HT1 := Lib.hid T1
  clear M1 T1
  gi_wp2_with fail
  refine ⟨trivial, (callsIn_wide.2 (HTB w1).out).mono ?_⟩
  rintro e w2 ⟨rfl, rfl⟩
  gi_wp2_with fail
  clear cm ct
  have p0 := Blk.made w1 9 #[.string ⟨#[]⟩]
  have p1 := Blk.made (w1.alloc (.cells #[.string ⟨#[]⟩] 9)) 9 #[.string ⟨#[]⟩]
  have p2 := Blk.made ((w1.alloc (.cells #[.string ⟨#[]⟩] 9)).alloc (.cells #[.string ⟨#[]⟩] 9)) 1 #[.func (.func 65) #[] #[pAt (w1.heap.size + 1), pAt w1.heap.size, pAt w.heap.size, pAt (w.heap.size + 1)]]
  simp only [World.size_alloc] at p1 p2
  have pb : Below w1.heap.size w1 (((w1.alloc (.cells #[.string ⟨#[]⟩] 9)).alloc (.cells #[.string ⟨#[]⟩] 9)).alloc (.cells #[.func (.func 65) #[] #[pAt (w1.heap.size + 1), pAt w1.heap.size, pAt w.heap.size, pAt (w.heap.size + 1)]] 1)) := up2 (up2 (below1 _ _) (below1 _ _)) (below1 _ _)
  have pz : (((w1.alloc (.cells #[.string ⟨#[]⟩] 9)).alloc (.cells #[.string ⟨#[]⟩] 9)).alloc (.cells #[.func (.func 65) #[] #[pAt (w1.heap.size + 1), pAt w1.heap.size, pAt w.heap.size, pAt (w.heap.size + 1)]] 1)).heap.size = w1.heap.size + 3 := by simp
  have fb : FBox (((w1.alloc (.cells #[.string ⟨#[]⟩] 9)).alloc (.cells #[.string ⟨#[]⟩] 9)).alloc (.cells #[.func (.func 65) #[] #[pAt (w1.heap.size + 1), pAt w1.heap.size, pAt w.heap.size, pAt (w.heap.size + 1)]] 1)) w.heap.size (w.heap.size + 1) w1.heap.size (w1.heap.size + 1) (w1.heap.size + 1 + 1) most tab [] [] :=
    ⟨HM1.out.up pb, HT1.out.up pb, p0.up (up2 (below1 _ _) (below1 _ _)), p1.up (below1 _ _), p2⟩
  clear p0 p1 p2
  generalize ((w1.alloc (.cells #[.string ⟨#[]⟩] 9)).alloc (.cells #[.string ⟨#[]⟩] 9)).alloc (.cells #[.func (.func 65) #[] #[pAt (w1.heap.size + 1), pAt w1.heap.size, pAt w.heap.size, pAt (w.heap.size + 1)]] 1) = X at *
  have BX := Lib.hid (up2 B1.out pb)
  clear pb HM1 HT1
  refine ⟨trivial, (callsIn_wide.2 (HR X).out).mono ?_⟩
  rintro e w3 ⟨rfl, hw3⟩
  have hbs := Blk.made X 9 #[.string s]
  have hbx := below1 X (.cells #[.string s] 9)
  have hzx : (X.alloc (.cells #[.string s] 9)).heap.size = X.heap.size + 1 := by simp
  rw [← hw3] at hbs hbx hzx
  clear hw3
  have fb3 := fb.up hbx
  have FB3 := Lib.hid fb3
  have B3 := Lib.hid (up2 BX.out hbx)
  have HBS := Lib.hid hbs
  have AP : FApart w.heap.size (w.heap.size + 1) w1.heap.size (w1.heap.size + 1) (w1.heap.size + 1 + 1) X.heap.size := by
    have := Z1.out
    constructor <;> omega
  have HAP := Lib.hid AP
  have HX := Lib.hid (show X.heap.size = w1.heap.size + 3 from pz)
  have HZ := Lib.hid hzx
  clear fb fb3 hbx hbs AP pz hzx
  gi_wp2_with fail
  generalize X.heap.size = Bs at *
  refine wpIn_range_box rfl (by omega) (gf := 116) (lb := #[.pointer (some ⟨Bs, 0, none⟩)]) rfl trivial (enters_of Tryz.func116 (by kernel_rfl) rfl) (by have := HZ.out; omega)
    (rows1_box 5 HC.out (by have := HS.out; omega) Bs w3 HBS.out) (fun _ => rfl)
    (fun pre W => (∃ out par, FBox W w.heap.size (w.heap.size + 1) w1.heap.size (w1.heap.size + 1) (w1.heap.size + 1 + 1) most tab out par ∧ FAt cs most tab pre out par) ∧ Below w.heap.size w W ∧ Bs < W.heap.size)
    (fun pre W W' row hs hg hr => by
      obtain ⟨⟨out, par, h1, h2⟩, h3, h4⟩ := hs
      exact ⟨⟨out, par, h1.grown hg (fun r e => (hr r e).2), h2⟩, h3.grown hg h3.size (fun k e => by have := (hr k e).1; have := B3.out.size; omega), Nat.lt_of_lt_of_le h4 hg.size⟩)
    (fun pre W v hs => by
      obtain ⟨⟨out, par, h1, h2⟩, h3, h4⟩ := hs
      exact ⟨⟨out, par, h1.box HAP.out v, h2⟩, h3.setCell (p := ⟨Bs, 0, none⟩) (by have := HX.out; have := Z1.out; show w.heap.size ≤ Bs; omega) v, by simpa using h4⟩)
    ⟨⟨[], [], FB3.out, FAt.nil _ _ _⟩, B3.out, by have := HZ.out; omega⟩ ?fr ?assign ?body ?done
  case assign =>
    intro l x W K hK
    gi_wp2
    exact hK
  case body =>
    rintro l pre x W ⟨⟨out, par, hfb, hfa⟩, hbel, hbs⟩ hpre
    obtain ⟨suf, hsuf⟩ := hpre
    have hxin : x ∈ rowsC cs := by rw [← hsuf]; simp
    have hxN : ∀ c ∈ x, isN c := fun c hc => HEC.out.2 c (rows_in hxin c hc)
    have hch : charsD (encS x).data.toList = some x := by rw [encS_list]; exact chars_enc _ hxN
    have hfx := hfa.facts ⟨x :: suf, by rw [← hsuf]; simp⟩ HEC.out.2 (by rw [HEC.out.1, size_len]; exact HS.out)
    have hxs : (encS x).size ≤ 16000 := by
      have h1 : x.flatMap (fun c : Nat => (Utf8.encode (c : Int)).data.toList) = encL x := rfl
      have h2 : cs = pre.flatten ++ (x ++ suf.flatten) := by
        have := rowsC_flat cs
        rw [← hsuf] at this
        rw [← this]; simp
      have h3 : (encL cs).length = s.size := by rw [HEC.out.1, size_len]
      rw [h2, encL_append, encL_append, List.length_append, List.length_append] at h3
      rw [encS_len]
      have := HS.out
      omega
    have HPT := fun w' => Lib.hid (parts_ok hch (by omega) w')
    have HFB := Lib.hid hfb
    have HFA := Lib.hid hfa
    have HBEL := Lib.hid hbel
    have HBS2 := Lib.hid hbs
    have HFX := Lib.hid hfx
    have HXS := Lib.hid hxs
    have HXN := Lib.hid hxN
    have HSUF := Lib.hid hsuf
    clear hfb hfa hbel hbs hfx hxs hxN hsuf hxin hch
    gi_wp2_with fail
    refine ⟨trivial, (CallsIn.inRound l (callsIn_wide.2 (HPT W).out)).mono ?_⟩
    rintro e w4 ⟨A, rfl, hown, hb4⟩
    have FB4 := Lib.hid (HFB.out.up hb4)
    have BEL4 := Lib.hid (HBEL.out.trans (hb4.mono HBEL.out.size))
    have KP4 := Lib.hid (below_keeps HBS2.out hb4)
    have BS4 := Lib.hid (Nat.lt_of_lt_of_le HBS2.out hb4.size)
    have hsum : (9223372036854775807 < (encS par).size + (encS x).size) = False := eq_false (by have := HFX.out.2.1; have := HXS.out; omega)
    have cp := FB4.out.p.cell (j := 0) rfl
    have fp := FB4.out.p.fz 0
    have cf := FB4.out.f.cell (j := 0) rfl
    have hw0 : (wordsC x).length = 0 ↔ wordsC x = [] := List.length_eq_zero_iff
    have HW0 := Lib.hid hw0
    clear hown hb4 hw0
    generalize hnw : (wordsC x).length = nw at *
    clear hnw
    by_cases hw : nw = 0
    · have d5 : decide ((0 : Int) < (nw : Int)) = false := decide_eq_false (by omega)
      have HWX := Lib.hid (HW0.out.1 hw)
      subst hw
      gi_wp2_with fail
      refine ⟨trivial, (CallsIn.inRound l (callsIn_wide.2 (flush_ok HAP.out.po FB4.out.p FB4.out.o FB4.out.m FB4.out.t HFX.out.1 HFX.out.2.1 (by have := HFX.out.2.2.1; omega) HM.out.2 HTAB.out.1 HTAB.out.2))).mono ?_⟩
      rintro e w5 ⟨rfl, hfl⟩
      have FB5 := Lib.hid (FB4.out.flush HAP.out hfl)
      have KP5 := Lib.hid (keeps_trans KP4.out (flush_keeps FB4.out HAP.out BS4.out hfl))
      have BEL5 := Lib.hid (BEL4.out.trans (hfl.1.below BEL4.out.size (fun k hk => by have := Z1.out; rcases hk with rfl | rfl <;> omega)))
      have BS5 := Lib.hid (Nat.lt_of_lt_of_le BS4.out hfl.1.size)
      have hfx2 := (HFA.out.blank HWX.out).facts ⟨suf, by rw [← HSUF.out]⟩ HEC.out.2 (by rw [HEC.out.1, size_len]; exact HS.out)
      have hos2 := hfx2.2.2.1
      rw [← encS_append, ByteArray.size_append] at hos2
      have hsum2 : (9223372036854775807 < (encS (out ++ flC widN most tab par)).size + (encS x).size) = False := eq_false (by omega)
      have co := FB5.out.o.cell (j := 0) rfl
      have fo := FB5.out.o.fz 0
      clear cp fp cf hfl hsum hfx2 hos2
      gi_wp2_with fail
      have FB6 := FB5.out.setO HAP.out (out ++ flC widN most tab par ++ x)
      rw [← encS_append (out ++ flC widN most tab par) x] at FB6
      have KP6 := keeps_trans KP5.out (set_keeps (W := w5) HAP.out.so (.string (encS (out ++ flC widN most tab par) ++ encS x)))
      exact ⟨KP6.1, KP6.2, ⟨_, _, FB6, HFA.out.blank HWX.out⟩, BEL5.out.setCell (p := ⟨w1.heap.size, 0, none⟩) (by have := Z1.out; show w.heap.size ≤ w1.heap.size; omega) _, by have := BS5.out; simpa using this⟩
    · have d5 : decide ((0 : Int) < (nw : Int)) = true := decide_eq_true (by omega)
      have d6 : (0 < nw) = True := eq_true (by omega)
      have HWX := Lib.hid (show wordsC x ≠ [] from fun e => hw (HW0.out.2 e))
      clear hw
      gi_wp2_with fail
      have FB6 := FB4.out.setP HAP.out (par ++ x)
      rw [← encS_append par x] at FB6
      have KP6 := keeps_trans KP4.out (set_keeps (W := w4) HAP.out.sp (.string (encS par ++ encS x)))
      exact ⟨KP6.1, KP6.2, ⟨_, _, FB6, HFA.out.word HWX.out⟩, BEL4.out.setCell (p := ⟨w1.heap.size + 1, 0, none⟩) (by have := Z1.out; show w.heap.size ≤ w1.heap.size + 1; omega) _, by have := BS4.out; simpa using this⟩
  case done =>
    rintro D W hD ⟨⟨out, par, hfb, hfa⟩, hbel, hbs⟩ hK
    have hfx := hfa.facts ⟨[], by simp⟩ HEC.out.2 (by rw [HEC.out.1, size_len]; exact HS.out)
    have hall := hfa.1 [] (by simp)
    rw [procC] at hall
    have FB0 := Lib.hid hfb
    have HK := Lib.hid hK
    have BEL0 := Lib.hid hbel
    have BS0 := Lib.hid hbs
    have HFX := Lib.hid hfx
    have HALL := Lib.hid hall
    have HDD := Lib.hid hD
    have cf := hfb.f.cell (j := 0) rfl
    clear hfb hfa hbel hbs hfx hall hK hD
    gi_wp2_with fail
    refine ⟨trivial, (callsIn_wide.2 (flush_ok HAP.out.po FB0.out.p FB0.out.o FB0.out.m FB0.out.t HFX.out.1 HFX.out.2.1 (by have := HFX.out.2.2.1; omega) HM.out.2 HTAB.out.1 HTAB.out.2)).mono ?_⟩
    rintro e w5 ⟨rfl, hfl⟩
    have fb5 := FB0.out.flush HAP.out hfl
    rw [HALL.out] at fb5
    have FB5 := Lib.hid fb5
    have KP5 := Lib.hid (flush_keeps FB0.out HAP.out BS0.out hfl)
    have BEL5 := Lib.hid (BEL0.out.trans (hfl.1.below BEL0.out.size (fun k hk => by have := Z1.out; rcases hk with rfl | rfl <;> omega)))
    have hN2 := fillT_isN widN most tab HEC.out.2
    have hsz2 : (encS (fillT widN most tab cs)).size ≤ 1000000000 := by
      have := encS_le (fillT widN most tab cs)
      have := HLEN.out
      omega
    have hch2 := chrs_encS hN2
    have hL := fun w' (hT : Tabs N w') => runesLen (encS (fillT widN most tab cs)) w' hsz2 hT
    rw [rlenG_chars hch2.2, hch2.1] at hL
    have HL := fun w' hT => Lib.hid (hL w' hT)
    have d5 : decide ((65536 : Int) < ((fillT widN most tab cs).length : Int)) = false := decide_eq_false (by have := HLEN.out; omega)
    have d6 : (65536 < (fillT widN most tab cs).length) = False := eq_false (by have := HLEN.out; omega)
    have co := fb5.o.cell (j := 0) rfl
    clear hfl fb5 cf hN2 hsz2 hch2 hL
    gi_wp2_with fail
    refine ⟨trivial, (callsIn_wide.2 (HL w5 (HTT.out.up BEL5.out)).out).mono ?_⟩
    rintro e w6 ⟨rfl, hb6⟩
    have fb6 := FB5.out.up hb6
    have co6 := fb6.o.cell (j := 0) rfl
    have BEL6 := Lib.hid (BEL5.out.trans (hb6.mono BEL5.out.size))
    have KP6 := Lib.hid (KP5.out.1.trans (keepsO_below hb6))
    clear co fb6 hb6
    gi_wp2_with fail
    have hK6 := KP6.out.same D _ HK.out rfl
    refine ⟨by simp, .inl ⟨_, _, rfl, run_takeDeferred hK6, ?_⟩⟩
    refine ⟨.tuple #[.string (encS (fillT widN most tab cs)), .int .i64 0], ?_, rfl, BEL6.out.trans (belowK_b (w := w) (Nat.le_refl _) w6 D _ _ (by have h1 := HDD.out; have h2 := B3.out.size; omega) hK6 rfl rfl)⟩
    simp [results, Tryz.f18, go_sem]
end
end Go.Proofs.YtphdkcdkhklicaaGreatDoor
