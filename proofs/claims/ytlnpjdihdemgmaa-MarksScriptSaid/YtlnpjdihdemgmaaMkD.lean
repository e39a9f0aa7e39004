/- Package marks: Deleted, Inserted. -/
import Derived.Test.YtlnpjdihdemgmaaMkC
namespace Go.Proofs.Ytlnpjdihdemgmaa
open Go.RowKit
set_option linter.unusedVariables false
variable {b bm : Nat} {m : List (Int × Mk)} {n : Int} {w : World}

def delM_ (from_ to : Int) (m : List (Int × Mk)) : List (Int × Mk) := m.map (fun p => (p.1, (delAt from_ to p.2, p.2.2)))
def insM_ (a k : Int) (ahead : Bool) (m : List (Int × Mk)) : List (Int × Mk) := m.map (fun p => (p.1, (insAt a k ahead p.2, p.2.2)))
def delOk (from_ to : Int) : Bool := placeI from_ && (placeI to && decide (from_ ≤ to))
theorem box_cell (w : World) (v : Value) (t : TypeId) : (w.alloc (.cells #[v] t)).cell? ⟨w.heap.size, 0, none⟩ = some v := by
  simp only [World.cell?, (MapKept.heap_alloc w _).1]; rfl
/-- The set behind a change of its entries. -/
theorem MarksAt.changedTo {w w1 : World} {b bm : Nat} {m m' : List (Int × Mk)} {n : Int} (h : MarksAt w b bm m n) (ho : Only (· = bm) w w1) (him : IM w1 bm encM m') (hk : m'.map (·.1) = m.map (·.1)) (ha : ∀ p ∈ m', 1 ≤ p.2.1 ∧ p.2.1 ≤ 1099511627776) : MarksAt w1 b bm m' n := by
  have hbk : w1.heap[b]? = w.heap[b]? := ho.block b h.lt h.ne
  refine ⟨(World.cell?_of_block (w := w) (a := ⟨b, 0, none⟩) hbk).trans h.c0, (World.cell?_of_block (w := w) (a := ⟨b, 1, none⟩) hbk).trans h.c1, (World.frozen?_of_block (w := w) (a := ⟨b, 1, none⟩) hbk).trans h.f1, him, ?_, ha⟩
  intro p hp
  have : p.1 ∈ m.map (·.1) := hk ▸ List.mem_map.2 ⟨p, hp, rfl⟩
  obtain ⟨q, hq, e⟩ := List.mem_map.1 this
  rw [← e]; exact h.ids q hq
theorem delAt_in {from_ to : Int} {x : Mk} (hx : 1 ≤ x.1 ∧ x.1 ≤ 1099511627776) (hf : 1 ≤ from_) (hft : from_ ≤ to) (ht : to ≤ 1099511627776) : 1 ≤ delAt from_ to x ∧ delAt from_ to x ≤ 1099511627776 := by
  unfold delAt; split
  · omega
  · split <;> omega

set_option maxRecDepth 100000 in
set_option maxHeartbeats 1000000 in
theorem deleted_bad (h : MarksAt w b bm m n) (from_ to : Int) (hp : delOk from_ to = false) : Calls Try.prog 15 #[.pointer (some ⟨b, 0, none⟩), .int .i64 from_, .int .i64 to] w fun e w' => e = .returned (.int .i64 3) ∧ Below w.heap.size w w' := by
  have hB : Below w.heap.size w ((w.alloc (.cells #[.int .i64 from_] 3)).alloc (.cells #[.int .i64 to] 3)) := (below1 w _).alloc (by simp) _
  have h1 := h.up hB
  by_cases h2 : placeI from_ = true
  · by_cases h3 : placeI to = true
    · have h4 : to < from_ := by simp [delOk, h2, h3] at hp; omega
      clear hp
      go_enter Try.func15, Try.ntmps15
      go_wp2_with (first | (go_at_call 34; refine (made_any h1).mono ?_; rintro e w' ⟨rfl, rfl⟩) | (go_at_call 35; refine (place_any _ _).mono ?_; rintro e w' ⟨rfl, rfl⟩))
      go_ret
      exact ⟨rfl, hB⟩
    · have h3' : placeI to = false := by simpa using h3
      clear hp h3
      go_enter Try.func15, Try.ntmps15
      go_wp2_with (first | (go_at_call 34; refine (made_any h1).mono ?_; rintro e w' ⟨rfl, rfl⟩) | (go_at_call 35; refine (place_any _ _).mono ?_; rintro e w' ⟨rfl, rfl⟩))
      go_ret
      exact ⟨rfl, hB⟩
  · have h2' : placeI from_ = false := by simpa using h2
    clear hp h2
    go_enter Try.func15, Try.ntmps15
    go_wp2_with (first | (go_at_call 34; refine (made_any h1).mono ?_; rintro e w' ⟨rfl, rfl⟩) | (go_at_call 35; refine (place_any _ _).mono ?_; rintro e w' ⟨rfl, rfl⟩))
    go_ret
    exact ⟨rfl, hB⟩

set_option maxRecDepth 100000 in
set_option maxHeartbeats 1000000 in
theorem deleted_ok (h : MarksAt w b bm m n) (from_ to : Int) (hp : delOk from_ to = true) : Calls Try.prog 15 #[.pointer (some ⟨b, 0, none⟩), .int .i64 from_, .int .i64 to] w fun e w' => e = .returned (.int .i64 0) ∧ MarksAt w' b bm (delM_ from_ to m) n ∧ Only (Own2 b bm) w w' := by
  have h2 : placeI from_ = true := by simp [delOk] at hp; exact hp.1
  have h3 : placeI to = true := by simp [delOk] at hp; exact hp.2.1
  have h4 : from_ ≤ to := by simp [delOk] at hp; exact hp.2.2
  clear hp
  have q1 := placeI_true h2
  have q2 := placeI_true h3
  have hB : Below w.heap.size w ((w.alloc (.cells #[.int .i64 from_] 3)).alloc (.cells #[.int .i64 to] 3)) := (below1 w _).alloc (by simp) _
  have h1 := h.up hB
  have k0 := box_cell w (.int .i64 from_) 3
  have k0' := ((below1 (w.alloc (.cells #[.int .i64 from_] 3)) (.cells #[.int .i64 to] 3)).cell (p := ⟨w.heap.size, 0, none⟩) (by simp)).trans k0
  have k1 := box_cell (w.alloc (.cells #[.int .i64 from_] 3)) (.int .i64 to) 3
  rw [World.size_alloc] at k1
  have hbl := h.im.lt
  have hblt := h.lt
  clear k0
  go_enter Try.func15, Try.ntmps15
  go_wp2_with (first | (go_at_call 34; refine (made_any h1).mono ?_; rintro e w' ⟨rfl, rfl⟩) | (go_at_call 35; refine (place_any _ _).mono ?_; rintro e w' ⟨rfl, rfl⟩) | (go_at_call 36; refine (change_del (w.heap.size + 1) w.heap.size from_ to h1 k1 (by omega) k0' (by omega) (by omega) (by omega) (by omega)).mono ?_; rintro e w' ⟨rfl, him, hon⟩))
  go_ret
  refine ⟨rfl, h1.changedTo hon him (by unfold delM_; rw [List.map_map]; rfl) ?_, (Only.of_below hB).trans (hon.mono (fun k e => .inr e))⟩
  intro p hp
  obtain ⟨q, hq, rfl⟩ := List.mem_map.1 hp
  exact delAt_in (h.ats q hq) (by omega) (by omega) (by omega)

abbrev insW (w : World) (a k : Int) (ahead : Bool) : World := ((w.alloc (.cells #[.int .i64 a] 3)).alloc (.cells #[.int .i64 k] 3)).alloc (.cells #[.bool ahead] 4)
theorem insW_below (w : World) (a k : Int) (ahead : Bool) : Below w.heap.size w (insW w a k ahead) := ((below1 w _).alloc (by simp) _).alloc (by simp; omega) _
theorem insW_cells (w : World) (a k : Int) (ahead : Bool) : (insW w a k ahead).cell? ⟨w.heap.size, 0, none⟩ = some (.int .i64 a) ∧ (insW w a k ahead).cell? ⟨w.heap.size + 1, 0, none⟩ = some (.int .i64 k) ∧ (insW w a k ahead).cell? ⟨w.heap.size + 1 + 1, 0, none⟩ = some (.bool ahead) := by
  have k0 := box_cell w (.int .i64 a) 3
  have k1 := box_cell (w.alloc (.cells #[.int .i64 a] 3)) (.int .i64 k) 3
  have k2 := box_cell ((w.alloc (.cells #[.int .i64 a] 3)).alloc (.cells #[.int .i64 k] 3)) (.bool ahead) 4
  simp only [World.size_alloc] at k1 k2
  refine ⟨?_, ?_, k2⟩
  · exact ((below1 _ _).cell (p := ⟨w.heap.size, 0, none⟩) (by simp; omega)).trans (((below1 _ _).cell (p := ⟨w.heap.size, 0, none⟩) (by simp)).trans k0)
  · exact ((below1 _ _).cell (p := ⟨w.heap.size + 1, 0, none⟩) (by simp)).trans k1

set_option maxRecDepth 100000 in
set_option maxHeartbeats 1000000 in
theorem inserted_range (h : MarksAt w b bm m n) (a k : Int) (ahead : Bool) (hp : placeI a = false) : Calls Try.prog 16 #[.pointer (some ⟨b, 0, none⟩), .int .i64 a, .int .i64 k, .bool ahead] w fun e w' => e = .returned (.int .i64 3) ∧ Below w.heap.size w w' := by
  have hB := insW_below w a k ahead
  have h1 := h.up hB
  go_enter Try.func16, Try.ntmps16
  go_wp2_with (first | (go_at_call 34; refine (made_any h1).mono ?_; rintro e w' ⟨rfl, rfl⟩) | (go_at_call 35; refine (place_any _ _).mono ?_; rintro e w' ⟨rfl, rfl⟩))
  go_ret
  exact ⟨rfl, hB⟩

set_option maxRecDepth 100000 in
set_option maxHeartbeats 1000000 in
theorem inserted_arg (h : MarksAt w b bm m n) (a k : Int) (ahead : Bool) (hp : placeI a = true) (hk : k < 0 ∨ 65536 < k) : Calls Try.prog 16 #[.pointer (some ⟨b, 0, none⟩), .int .i64 a, .int .i64 k, .bool ahead] w fun e w' => e = .returned (.int .i64 2) ∧ Below w.heap.size w w' := by
  have hB := insW_below w a k ahead
  have h1 := h.up hB
  rcases hk with hk | hk
  all_goals
    go_enter Try.func16, Try.ntmps16
    go_wp2_with (first | (go_at_call 34; refine (made_any h1).mono ?_; rintro e w' ⟨rfl, rfl⟩) | (go_at_call 35; refine (place_any _ _).mono ?_; rintro e w' ⟨rfl, rfl⟩))
    all_goals (go_ret; exact ⟨rfl, hB⟩)

/-- What Inserted hands back, and does. -/
def InsPost (w : World) (b bm : Nat) (m : List (Int × Mk)) (n a k : Int) (ahead : Bool) (e : Ending) (w' : World) : Prop :=
  (e = .returned (.int .i64 3) ∧ (∃ p ∈ m, placeI (insAt a k ahead p.2) = false) ∧ Below w.heap.size w w') ∨
  (e = .returned (.int .i64 0) ∧ (∀ p ∈ m, placeI (insAt a k ahead p.2) = true) ∧ MarksAt w' b bm (insM_ a k ahead m) n ∧ Only (Own2 b bm) w w')

set_option maxRecDepth 100000 in
set_option maxHeartbeats 2000000 in
theorem inserted_go (h : MarksAt w b bm m n) (a k : Int) (ahead : Bool) (hp : placeI a = true) (hk0 : 0 ≤ k) (hk1 : k ≤ 65536) : Calls Try.prog 16 #[.pointer (some ⟨b, 0, none⟩), .int .i64 a, .int .i64 k, .bool ahead] w (InsPost w b bm m n a k ahead) := by
  have hB := insW_below w a k ahead
  have h1 := h.up hB
  obtain ⟨k0, k1, k2⟩ := insW_cells w a k ahead
  have c0 := h1.c0
  obtain ⟨w1, hrange, hir, hb1, hs1⟩ := h1.im.range (P := Try.prog) mapT
  have hsz : (insW w a k ahead).heap.size = w.heap.size + 1 + 1 + 1 := by simp
  rw [hsz] at hrange hir hs1
  have hbl := h.im.lt
  have hblt := h.lt
  have HS := Lib.hid hsz
  clear hsz
  go_enter Try.func16, Try.ntmps16
  go_wp2_with (first | (go_at_call 34; refine (made_any h1).mono ?_; rintro e w' ⟨rfl, rfl⟩) | (go_at_call 35; refine (place_any _ _).mono ?_; rintro e w' ⟨rfl, rfl⟩))
  go_loopw [11] (fun _ wr => ∃ todo, IRange wr bm (w.heap.size + 1 + 1 + 1) encM m todo ∧ Below (w.heap.size + 1 + 1 + 1) (insW w a k ahead) wr ∧ ∀ p ∈ m, p.1 ∉ todo → placeI (insAt a k ahead p.2) = true) (fun _ wr => wr.rangeLeft bm (w.heap.size + 1 + 1 + 1))
  case atStart => exact ⟨m.map (·.1), hir, by have := HS.out; rw [this] at hb1; exact hb1, fun p hp hn => absurd (List.mem_map.2 ⟨p, hp, rfl⟩) hn⟩
  case round =>
    clear hir hb1 hs1 hrange w1 c0
    obtain ⟨todo, hir, hbw, hall⟩ := hrel
    have HA := Lib.hid hall
    clear hall
    have d0 := (hbw.cell (p := ⟨w.heap.size, 0, none⟩) (by show w.heap.size < _; omega)).trans k0
    have d1 := (hbw.cell (p := ⟨w.heap.size + 1, 0, none⟩) (by show w.heap.size + 1 < _; omega)).trans k1
    have d2 := (hbw.cell (p := ⟨w.heap.size + 1 + 1, 0, none⟩) (by show w.heap.size + 1 + 1 < _; omega)).trans k2
    have hrl := hir.lt
    have hmw : MarksAt wr b bm m n := h1.below hbw (by omega) (by omega)
    clear k0 k1 k2
    rcases hir.next (P := Try.prog) with ⟨rfl, hnx⟩ | ⟨id, v, w1, hk, hv, hnx, hir1, hg1, hsz1, hen⟩
    · go_wp2_with fail
      refine (change_ins w.heap.size (w.heap.size + 1 + 1) (w.heap.size + 1) a k ahead hmw d0 (by omega) d2 (by omega) d1 (by omega) hk0 hk1).mono ?_
      rintro e w2 ⟨rfl, him, hon⟩
      go_wp2
      go_ret
      refine .inr ⟨rfl, fun p hp => HA.out p hp (by simp), hmw.changedTo hon him (by unfold insM_; rw [List.map_map]; rfl) ?_, ((Only.of_below hB).trans (Only.of_up hbw (by rw [HS.out]; omega))).trans (hon.mono (fun k e => .inr e))⟩
      intro p hp
      obtain ⟨q, hq, rfl⟩ := List.mem_map.1 hp
      exact placeI_true (HA.out q hq (by simp))
    · obtain ⟨va, vb⟩ := v
      have HV := Lib.hid hv
      have HK := Lib.hid hk
      clear hv hk
      have hmem : (id, (va, vb)) ∈ m := lookM_mem HV.out
      have hat := h.ats _ hmem
      have HM := Lib.hid hmem
      clear hmem
      have hl1 := hir.left
      have HL1 := Lib.hid hl1
      clear hl1
      have hal := MapKept.heap_alloc w1 (.cells #[.int .i64 va, .bool vb] 65)
      have hgx : ∀ j, j < w1.heap.size → j ≠ w.heap.size + 1 + 1 + 1 → (w1.alloc (.cells #[.int .i64 va, .bool vb] 65)).heap[j]? = wr.heap[j]? := fun j hj hne => (hal.2 j hj).trans (hg1.block j (by omega) (fun e => hne (by cases e; rfl)))
      obtain ⟨W2, hW2⟩ : ∃ W2, w1.alloc (.cells #[.int .i64 va, .bool vb] 65) = W2 := ⟨_, rfl⟩
      have hir2 : IRange W2 bm (w.heap.size + 1 + 1 + 1) encM m (todo.filter (· != id)) := by
        rw [← hW2]; exact hir1.kept (hal.2 bm hir1.im.lt) (hal.2 _ hir1.lt)
      have hbw2 : Below (w.heap.size + 1 + 1 + 1) (insW w a k ahead) W2 := by
        refine hbw.trans ⟨?_, ?_, ?_, ?_, ?_⟩
        · rw [← hW2]; exact hg1.os
        · rw [← hW2]; exact hg1.tape
        · rw [← hW2]; exact hg1.output
        · rw [← hW2]; simp; omega
        · intro j hj; rw [← hW2]; exact hgx j (by omega) (by omega)
      have e0 := (hbw2.cell (p := ⟨w.heap.size, 0, none⟩) (by show w.heap.size < _; omega)).trans (insW_cells w a k ahead).1
      have e1 := (hbw2.cell (p := ⟨w.heap.size + 1, 0, none⟩) (by show w.heap.size + 1 < _; omega)).trans (insW_cells w a k ahead).2.1
      have e2 := (hbw2.cell (p := ⟨w.heap.size + 1 + 1, 0, none⟩) (by show w.heap.size + 1 + 1 < _; omega)).trans (insW_cells w a k ahead).2.2
      have hzW : w.heap.size + 1 + 1 + 1 < W2.heap.size := hir2.lt
      have x0 : W2.cell? ⟨wr.heap.size, 0, none⟩ = some (.int .i64 va) := by rw [← hsz1, ← hW2]; simp only [World.cell?, hal.1]; rfl
      have x1 : W2.cell? ⟨wr.heap.size, 1, none⟩ = some (.bool vb) := by rw [← hsz1, ← hW2]; simp only [World.cell?, hal.1]; rfl
      clear d0 d1 d2 hgx hal
      go_wp2_with fail
      have hb3' : ∀ w3, Below W2.heap.size W2 w3 → IRange w3 bm (w.heap.size + 1 + 1 + 1) encM m (todo.filter (· != id)) ∧ Below (w.heap.size + 1 + 1 + 1) (insW w a k ahead) w3 := fun w3 hb3 =>
        ⟨hir2.kept (hb3.block bm hir2.im.lt) (hb3.block _ hir2.lt), hbw2.trans (hb3.mono (by omega))⟩
      have HB3 := Lib.hid hb3'
      clear hb3'
      refine (ins1_any w.heap.size (w.heap.size + 1 + 1) (w.heap.size + 1) a k ahead (va, vb) W2 e0 e2 e1 hat hk0 hk1).mono ?_
      rintro e w3 ⟨rfl, hb3⟩
      obtain ⟨hir3, hbw3⟩ := HB3.out w3 hb3
      have hl3 := hir3.left
      have HL3 := Lib.hid hl3
      clear hl3 e0 e1 e2 hnx hen hir2 hbw2 HB3 hW2 hir1 hsz1 x0 x1
      by_cases hq : placeI (insAt a k ahead (va, vb)) = true
      · go_wp2_with (go_at_call 35; refine (place_any _ _).mono ?_; rintro e w' ⟨rfl, rfl⟩)
        go_roundw
        case rel =>
          refine ⟨todo.filter (· != id), hir3, hbw3, fun p hp hn => ?_⟩
          by_cases hpk : p.1 = id
          · rw [inj_of_nodup h.im.nodup hp HM.out hpk]; exact hq
          · exact HA.out p hp (fun hin => hn (List.mem_filter.2 ⟨hin, by simpa using hpk⟩))
        case measure =>
          rw [HL3.out, HL1.out]
          exact filter_lt_of_mem HK.out
      · have hq' : placeI (insAt a k ahead (va, vb)) = false := by simpa using hq
        clear hq
        go_wp2_with (go_at_call 35; refine (place_any _ _).mono ?_; rintro e w' ⟨rfl, rfl⟩)
        go_ret
        exact .inl ⟨rfl, ⟨_, HM.out, hq'⟩, hB.trans (hbw3.mono (by omega))⟩
end Go.Proofs.Ytlnpjdihdemgmaa
