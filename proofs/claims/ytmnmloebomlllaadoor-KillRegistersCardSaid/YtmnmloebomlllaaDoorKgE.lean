/- Registers: the reference's plain. -/
import Derived.Test.YtmnmloebomlllaaDoorKgD
namespace Go.Proofs.YtmnmloebomlllaaDoor
open Go.RowKit
set_option linter.unusedVariables false
set_option linter.unusedSimpArgs false
section
variable {w w' : World} {N : Nat}
set_option maxRecDepth 100000 in
set_option maxHeartbeats 1000000 in
theorem rplain_text1 (r : Reg) (w : World) (hk : r.kind = 1) (hs : r.text.size ≤ 1000000000) (hv : vld r.text = true) :
    Calls Tryd.prog 53 #[regV r] w (PlPost w (plainC r.con) (plainE r.con)) := by
  have HV := Lib.hid (fun (w1 : World) => rvalid_any r.text w1 hs)
  obtain ⟨k, n, id, t, A, c, rows⟩ := r
  obtain rfl : k = 1 := hk
  have e1 : plainE (Reg.con ⟨1, n, id, t, A, c, rows⟩) = 0 := plE_text1 hv
  have e2 : plainC (Reg.con ⟨1, n, id, t, A, c, rows⟩) = ⟨1, 0, 0, t, []⟩ := by unfold plainC; rw [if_pos e1]; rfl
  rw [e1, e2]
  clear e1 e2
  replace hv : vld t = true := hv
  simp only [hv] at HV
  clear hv
  go_enter Tryd.func53, Tryd.ntmps53
  go_wp2_with fail
  refine (HV.out _).mono ?_
  rintro e w1 ⟨rfl, hb⟩
  obtain ⟨hc, hf⟩ := bcell hb
  have HB := Lib.hid (up2 (up2 (below1 _ _) (below1 _ _)) hb)
  clear hb
  go_wp2_with fail
  refine bodyPost_ret (v := .tuple #[.agg #[.int .i64 1, .int .i64 0, .int .i64 0, .string t, .slice none 0 0], .int .i64 0]) (by simp [results, Tryd.f53, go_sem, hc, hf]) rfl (pl_none _ _ _ _ rfl ?_)
  repeat (refine set_below ?_ _ _ _ (by omega))
  exact HB.out
set_option maxRecDepth 100000 in
set_option maxHeartbeats 1000000 in
theorem rplain_text0 (r : Reg) (w : World) (hk : r.kind = 1) (hs : r.text.size ≤ 1000000000) (hv : vld r.text = false) :
    Calls Tryd.prog 53 #[regV r] w (PlPost w (plainC r.con) (plainE r.con)) := by
  have HV := Lib.hid (fun (w1 : World) => rvalid_any r.text w1 hs)
  obtain ⟨k, n, id, t, A, c, rows⟩ := r
  obtain rfl : k = 1 := hk
  have e1 : plainE (Reg.con ⟨1, n, id, t, A, c, rows⟩) = 5 := plE_text0 hv
  have e2 : plainC (Reg.con ⟨1, n, id, t, A, c, rows⟩) = zeroC := by unfold plainC; rw [e1]; rfl
  rw [e1, e2]
  clear e1 e2
  replace hv : vld t = false := hv
  simp only [hv] at HV
  clear hv
  go_enter Tryd.func53, Tryd.ntmps53
  go_wp2_with fail
  refine (HV.out _).mono ?_
  rintro e w1 ⟨rfl, hb⟩
  obtain ⟨hc, hf⟩ := bcell hb
  have HB := Lib.hid (up2 (up2 (below1 _ _) (below1 _ _)) hb)
  clear hb
  go_wp2_with fail
  refine bodyPost_ret (v := .tuple #[.agg #[.int .i64 0, .int .i64 0, .int .i64 0, .string ⟨#[]⟩, .slice none 0 0], .int .i64 5]) (by simp [results, Tryd.f53, go_sem, hc, hf]) rfl (pl_none _ _ _ _ rfl ?_)
  repeat (refine set_below ?_ _ _ _ (by omega))
  exact HB.out
set_option maxRecDepth 100000 in
set_option maxHeartbeats 1000000 in
theorem rplain_int1 (r : Reg) (w : World) (hk : r.kind = 2) (h0 : -2305843009213693952 ≤ r.n) (h1 : r.n ≤ 2305843009213693951) :
    Calls Tryd.prog 53 #[regV r] w (PlPost w (plainC r.con) (plainE r.con)) := by
  obtain ⟨k, n, id, t, A, c, rows⟩ := r
  obtain rfl : k = 2 := hk
  have e1 : plainE (Reg.con ⟨2, n, id, t, A, c, rows⟩) = 0 := plE_int1 h0 h1
  have e2 : plainC (Reg.con ⟨2, n, id, t, A, c, rows⟩) = ⟨2, n, 0, ⟨#[]⟩, []⟩ := by unfold plainC; rw [if_pos e1]; rfl
  rw [e1, e2]
  clear e1 e2
  replace h0 : -2305843009213693952 ≤ n := h0
  replace h1 : n ≤ 2305843009213693951 := h1
  have d0 : decide (n < (-2305843009213693952 : Int)) = false := by simp; omega
  have d1 : decide ((2305843009213693951 : Int) < n) = false := by simp; omega
  clear h0 h1
  go_enter Tryd.func53, Tryd.ntmps53
  go_wp2_with fail
  refine bodyPost_ret (v := .tuple #[.agg #[.int .i64 2, .int .i64 n, .int .i64 0, .string ⟨#[]⟩, .slice none 0 0], .int .i64 0]) (by simp [results, Tryd.f53, go_sem]) rfl (pl_none _ _ _ _ rfl ?_)
  exact up2 (below1 _ _) (below1 _ _)
set_option maxRecDepth 100000 in
set_option maxHeartbeats 1000000 in
theorem rplain_int0a (r : Reg) (w : World) (hk : r.kind = 2) (h0 : r.n < -2305843009213693952) :
    Calls Tryd.prog 53 #[regV r] w (PlPost w (plainC r.con) (plainE r.con)) := by
  obtain ⟨k, n, id, t, A, c, rows⟩ := r
  obtain rfl : k = 2 := hk
  have e1 : plainE (Reg.con ⟨2, n, id, t, A, c, rows⟩) = 2 := plE_int0a h0
  have e2 : plainC (Reg.con ⟨2, n, id, t, A, c, rows⟩) = zeroC := by unfold plainC; rw [e1]; rfl
  rw [e1, e2]
  clear e1 e2
  replace h0 : n < -2305843009213693952 := h0
  have d0 : decide (n < (-2305843009213693952 : Int)) = true := by simp; omega
  clear h0
  go_enter Tryd.func53, Tryd.ntmps53
  go_wp2_with fail
  refine bodyPost_ret (v := .tuple #[.agg #[.int .i64 0, .int .i64 0, .int .i64 0, .string ⟨#[]⟩, .slice none 0 0], .int .i64 2]) (by simp [results, Tryd.f53, go_sem]) rfl (pl_none _ _ _ _ rfl ?_)
  exact up2 (below1 _ _) (below1 _ _)
set_option maxRecDepth 100000 in
set_option maxHeartbeats 1000000 in
theorem rplain_int0b (r : Reg) (w : World) (hk : r.kind = 2) (h0 : 2305843009213693951 < r.n) :
    Calls Tryd.prog 53 #[regV r] w (PlPost w (plainC r.con) (plainE r.con)) := by
  obtain ⟨k, n, id, t, A, c, rows⟩ := r
  obtain rfl : k = 2 := hk
  have e1 : plainE (Reg.con ⟨2, n, id, t, A, c, rows⟩) = 2 := plE_int0b h0
  have e2 : plainC (Reg.con ⟨2, n, id, t, A, c, rows⟩) = zeroC := by unfold plainC; rw [e1]; rfl
  rw [e1, e2]
  clear e1 e2
  replace h0 : 2305843009213693951 < n := h0
  have d0 : decide (n < (-2305843009213693952 : Int)) = false := by simp; omega
  have d1 : decide ((2305843009213693951 : Int) < n) = true := by simp; omega
  clear h0
  go_enter Tryd.func53, Tryd.ntmps53
  go_wp2_with fail
  refine bodyPost_ret (v := .tuple #[.agg #[.int .i64 0, .int .i64 0, .int .i64 0, .string ⟨#[]⟩, .slice none 0 0], .int .i64 2]) (by simp [results, Tryd.f53, go_sem]) rfl (pl_none _ _ _ _ rfl ?_)
  exact up2 (below1 _ _) (below1 _ _)
set_option maxRecDepth 100000 in
set_option maxHeartbeats 1000000 in
theorem rplain_place1 (r : Reg) (w : World) (hk : r.kind = 3) (h0 : 1 ≤ r.n) (h1 : 0 ≤ r.id) :
    Calls Tryd.prog 53 #[regV r] w (PlPost w (plainC r.con) (plainE r.con)) := by
  obtain ⟨k, n, id, t, A, c, rows⟩ := r
  obtain rfl : k = 3 := hk
  have e1 : plainE (Reg.con ⟨3, n, id, t, A, c, rows⟩) = 0 := plE_place1 h0 h1
  have e2 : plainC (Reg.con ⟨3, n, id, t, A, c, rows⟩) = ⟨3, n, id, ⟨#[]⟩, []⟩ := by unfold plainC; rw [if_pos e1]; rfl
  rw [e1, e2]
  clear e1 e2
  replace h0 : 1 ≤ n := h0
  replace h1 : 0 ≤ id := h1
  have d0 : decide (n < (1 : Int)) = false := by simp; omega
  have d1 : decide (id < (0 : Int)) = false := by simp; omega
  clear h0 h1
  go_enter Tryd.func53, Tryd.ntmps53
  go_wp2_with fail
  refine bodyPost_ret (v := .tuple #[.agg #[.int .i64 3, .int .i64 n, .int .i64 id, .string ⟨#[]⟩, .slice none 0 0], .int .i64 0]) (by simp [results, Tryd.f53, go_sem]) rfl (pl_none _ _ _ _ rfl ?_)
  exact up2 (below1 _ _) (below1 _ _)
set_option maxRecDepth 100000 in
set_option maxHeartbeats 1000000 in
theorem rplain_place0a (r : Reg) (w : World) (hk : r.kind = 3) (h0 : r.n < 1) :
    Calls Tryd.prog 53 #[regV r] w (PlPost w (plainC r.con) (plainE r.con)) := by
  obtain ⟨k, n, id, t, A, c, rows⟩ := r
  obtain rfl : k = 3 := hk
  have e1 : plainE (Reg.con ⟨3, n, id, t, A, c, rows⟩) = 2 := plE_place0a h0
  have e2 : plainC (Reg.con ⟨3, n, id, t, A, c, rows⟩) = zeroC := by unfold plainC; rw [e1]; rfl
  rw [e1, e2]
  clear e1 e2
  replace h0 : n < 1 := h0
  have d0 : decide (n < (1 : Int)) = true := by simp; omega
  clear h0
  go_enter Tryd.func53, Tryd.ntmps53
  go_wp2_with fail
  refine bodyPost_ret (v := .tuple #[.agg #[.int .i64 0, .int .i64 0, .int .i64 0, .string ⟨#[]⟩, .slice none 0 0], .int .i64 2]) (by simp [results, Tryd.f53, go_sem]) rfl (pl_none _ _ _ _ rfl ?_)
  exact up2 (below1 _ _) (below1 _ _)
set_option maxRecDepth 100000 in
set_option maxHeartbeats 1000000 in
theorem rplain_place0b (r : Reg) (w : World) (hk : r.kind = 3) (h2 : 1 ≤ r.n) (h0 : r.id < 0) :
    Calls Tryd.prog 53 #[regV r] w (PlPost w (plainC r.con) (plainE r.con)) := by
  obtain ⟨k, n, id, t, A, c, rows⟩ := r
  obtain rfl : k = 3 := hk
  have e1 : plainE (Reg.con ⟨3, n, id, t, A, c, rows⟩) = 2 := plE_place0b h2 h0
  have e2 : plainC (Reg.con ⟨3, n, id, t, A, c, rows⟩) = zeroC := by unfold plainC; rw [e1]; rfl
  rw [e1, e2]
  clear e1 e2
  replace h0 : id < 0 := h0
  replace h2 : 1 ≤ n := h2
  have d0 : decide (n < (1 : Int)) = false := by simp; omega
  have d1 : decide (id < (0 : Int)) = true := by simp; omega
  clear h0 h2
  go_enter Tryd.func53, Tryd.ntmps53
  go_wp2_with fail
  refine bodyPost_ret (v := .tuple #[.agg #[.int .i64 0, .int .i64 0, .int .i64 0, .string ⟨#[]⟩, .slice none 0 0], .int .i64 2]) (by simp [results, Tryd.f53, go_sem]) rfl (pl_none _ _ _ _ rfl ?_)
  exact up2 (below1 _ _) (below1 _ _)
set_option maxRecDepth 100000 in
set_option maxHeartbeats 1000000 in
theorem rplain_other (r : Reg) (w : World) (h2 : r.kind ≠ 1) (h3 : r.kind ≠ 2) (h4 : r.kind ≠ 3) (h5 : r.kind ≠ 4) :
    Calls Tryd.prog 53 #[regV r] w (PlPost w (plainC r.con) (plainE r.con)) := by
  obtain ⟨k, n, id, t, A, c, rows⟩ := r
  replace h2 : k ≠ 1 := h2
  replace h3 : k ≠ 2 := h3
  replace h4 : k ≠ 3 := h4
  replace h5 : k ≠ 4 := h5
  have e1 : plainE (Reg.con ⟨k, n, id, t, A, c, rows⟩) = 2 := plE_other h2 h3 h4 h5
  have e2 : plainC (Reg.con ⟨k, n, id, t, A, c, rows⟩) = zeroC := by unfold plainC; rw [e1]; rfl
  rw [e1, e2]
  clear e1 e2
  have d1 : (k == 1) = false := by simpa using h2
  have d2 : (k == 2) = false := by simpa using h3
  have d3 : (k == 3) = false := by simpa using h4
  have d4 : (k == 4) = false := by simpa using h5
  clear h2 h3 h4 h5
  go_enter Tryd.func53, Tryd.ntmps53
  go_wp2_with fail
  refine bodyPost_ret (v := .tuple #[.agg #[.int .i64 0, .int .i64 0, .int .i64 0, .string ⟨#[]⟩, .slice none 0 0], .int .i64 2]) (by simp [results, Tryd.f53, go_sem]) rfl (pl_none _ _ _ _ rfl ?_)
  exact up2 (below1 _ _) (below1 _ _)
end
end Go.Proofs.YtmnmloebomlllaaDoor
