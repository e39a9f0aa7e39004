/- Package marks: the closures of Deleted and Inserted; change. -/
import Derived.Test.YtlnpjdihdemgmaaMkB
namespace Go.Proofs.Ytlnpjdihdemgmaa
open Go.RowKit
set_option linter.unusedVariables false
variable {b bm : Nat} {m : List (Int × Mk)} {n : Int} {w : World}

/-- Where a deletion, an insertion moves a mark. -/
def delAt (from_ to : Int) (x : Mk) : Int := if to ≤ x.1 then x.1 - (to - from_) else if from_ < x.1 then from_ else x.1
def insAt (a k : Int) (ahead : Bool) (x : Mk) : Int := if a < x.1 ∨ (x.1 = a ∧ (ahead = true ∨ x.2 = true)) then x.1 + k else x.1

set_option maxHeartbeats 400000 in
theorem del1_any (bt bf : Nat) (from_ to : Int) (x : Mk) (w : World) (ct : w.cell? ⟨bt, 0, none⟩ = some (.int .i64 to)) (cf : w.cell? ⟨bf, 0, none⟩ = some (.int .i64 from_)) (hx : 1 ≤ x.1 ∧ x.1 ≤ 1099511627776) (hf : 1 ≤ from_) (hft : from_ ≤ to) (ht : to ≤ 1099511627776) :
    Calls Try.prog 37 #[encM x, .pointer (some ⟨bt, 0, none⟩), .pointer (some ⟨bf, 0, none⟩)] w fun e w' => e = .returned (.int .i64 (delAt from_ to x)) ∧ Below w.heap.size w w' := by
  obtain ⟨xa, xb⟩ := x
  obtain ⟨hx1, hx2⟩ := hx
  dsimp only at hx1 hx2
  have ct' : ∀ o, (w.alloc o).cell? ⟨bt, 0, none⟩ = some (.int .i64 to) := fun o => ((below1 w o).cell (p := ⟨bt, 0, none⟩) (lt_of_cell ct)).trans ct
  have cf' : ∀ o, (w.alloc o).cell? ⟨bf, 0, none⟩ = some (.int .i64 from_) := fun o => ((below1 w o).cell (p := ⟨bf, 0, none⟩) (lt_of_cell cf)).trans cf
  clear ct cf
  go_enter Try.func37, Try.ntmps37
  go_wp2
  all_goals (go_ret; exact ⟨ret_int (by simp only [delAt]; omega), below1 w _⟩)

set_option maxHeartbeats 400000 in
theorem ins1_any (ba bh bk : Nat) (a k : Int) (ahead : Bool) (x : Mk) (w : World) (ca : w.cell? ⟨ba, 0, none⟩ = some (.int .i64 a)) (ch : w.cell? ⟨bh, 0, none⟩ = some (.bool ahead)) (ck : w.cell? ⟨bk, 0, none⟩ = some (.int .i64 k)) (hx : 1 ≤ x.1 ∧ x.1 ≤ 1099511627776) (hk0 : 0 ≤ k) (hk1 : k ≤ 65536) :
    Calls Try.prog 38 #[encM x, .pointer (some ⟨ba, 0, none⟩), .pointer (some ⟨bh, 0, none⟩), .pointer (some ⟨bk, 0, none⟩)] w fun e w' => e = .returned (.int .i64 (insAt a k ahead x)) ∧ Below w.heap.size w w' := by
  obtain ⟨xa, xb⟩ := x
  obtain ⟨hx1, hx2⟩ := hx
  dsimp only at hx1 hx2
  have ca' : ∀ o, (w.alloc o).cell? ⟨ba, 0, none⟩ = some (.int .i64 a) := fun o => ((below1 w o).cell (p := ⟨ba, 0, none⟩) (lt_of_cell ca)).trans ca
  have ch' : ∀ o, (w.alloc o).cell? ⟨bh, 0, none⟩ = some (.bool ahead) := fun o => ((below1 w o).cell (p := ⟨bh, 0, none⟩) (lt_of_cell ch)).trans ch
  have ck' : ∀ o, (w.alloc o).cell? ⟨bk, 0, none⟩ = some (.int .i64 k) := fun o => ((below1 w o).cell (p := ⟨bk, 0, none⟩) (lt_of_cell ck)).trans ck
  clear ca ch ck
  go_enter Try.func38, Try.ntmps38
  by_cases h1 : a < xa
  · go_wp2
    all_goals (go_ret; exact ⟨ret_int (by simp only [insAt]; rw [if_pos (.inl h1)]), below1 w _⟩)
  · by_cases h2 : xa = a
    · subst h2
      cases ahead <;> cases xb
      all_goals
        go_wp2
        all_goals (go_ret; exact ⟨ret_int (by simp [insAt]), below1 w _⟩)
    · have h2' : (xa == a) = false := by simpa using h2
      go_wp2
      all_goals (go_ret; exact ⟨ret_int (by simp only [insAt]; rw [if_neg (by simp [h2]; omega)]), below1 w _⟩)

theorem filter_lt_of_mem {k : Int} : ∀ {l : List Int}, k ∈ l → (l.filter (· != k)).length < l.length
  | [], h => by cases h
  | a :: r, h => by
    by_cases e : a = k
    · subst e
      simp only [List.filter_cons, bne_self_eq_false, Bool.false_eq_true, if_false, List.length_cons]
      have := List.length_filter_le (· != a) r
      omega
    · have hr : k ∈ r := by
        rcases List.mem_cons.1 h with h | h
        · exact absurd h.symm e
        · exact h
      simp only [List.filter_cons]
      rw [if_pos (by simpa using e)]
      have := filter_lt_of_mem hr
      simp only [List.length_cons]; omega

/-- The map after the entries whose keys are not in todo have been changed. -/
def changed (g : Mk → Int) (m : List (Int × Mk)) (todo : List Int) : List (Int × Mk) := m.map (fun p => if p.1 ∈ todo then p else (p.1, (g p.2, p.2.2)))
theorem changed_all (g : Mk → Int) (m : List (Int × Mk)) : changed g m (m.map (·.1)) = m := by
  unfold changed
  conv => rhs; rw [← List.map_id m]
  apply List.map_congr_left
  intro p hp
  rw [if_pos (List.mem_map.2 ⟨p, hp, rfl⟩)]; rfl
theorem changed_nil (g : Mk → Int) (m : List (Int × Mk)) : changed g m [] = m.map (fun p => (p.1, (g p.2, p.2.2))) := by
  unfold changed; simp
theorem changed_keys (g : Mk → Int) (m : List (Int × Mk)) (todo : List Int) : (changed g m todo).map (·.1) = m.map (·.1) := by
  unfold changed; rw [List.map_map]; apply List.map_congr_left; intro p _; simp only [Function.comp]; split <;> rfl
theorem changed_look {g : Mk → Int} {m : List (Int × Mk)} {todo : List Int} {k : Int} {v : Mk} (hn : (m.map (·.1)).Nodup) (hk : k ∈ todo) (h : lookM (changed g m todo) k = some v) : (k, v) ∈ m := by
  have := lookM_mem h
  unfold changed at this
  obtain ⟨p, hp, e⟩ := List.mem_map.1 this
  split at e
  · rw [← e]; exact hp
  · rename_i hne
    simp only [Prod.mk.injEq] at e
    exact absurd (e.1 ▸ hk) hne
theorem changed_put {g : Mk → Int} {m : List (Int × Mk)} {todo : List Int} {k : Int} {v : Mk} (hn : (m.map (·.1)).Nodup) (hk : k ∈ todo) (hv : (k, v) ∈ m) (h : lookM (changed g m todo) k = some v) :
    putM (changed g m todo) k (g v, v.2) = changed g m (todo.filter (· != k)) := by
  unfold putM
  rw [if_pos (by rw [h]; rfl)]
  unfold changed
  rw [List.map_map]
  apply List.map_congr_left
  intro p hp
  simp only [Function.comp]
  by_cases e : p.1 = k
  · have hpv : p = (k, v) := inj_of_nodup hn hp hv e
    rw [hpv]
    simp [hk]
  · by_cases hp' : p.1 ∈ todo
    · rw [if_pos hp', if_neg (by simpa using e), if_pos (by simp [hp', e])]
    · rw [if_neg hp', if_neg (by simpa using e), if_neg (by simp [hp'])]

set_option maxRecDepth 100000 in
set_option maxHeartbeats 2000000 in
theorem change_del (bt bf : Nat) (from_ to : Int) (h : MarksAt w b bm m n) (ct : w.cell? ⟨bt, 0, none⟩ = some (.int .i64 to)) (nct : bt ≠ bm) (cf : w.cell? ⟨bf, 0, none⟩ = some (.int .i64 from_)) (ncf : bf ≠ bm) (hf : 1 ≤ from_) (hft : from_ ≤ to) (ht : to ≤ 1099511627776) :
    Calls Try.prog 36 #[.pointer (some ⟨b, 0, none⟩), .func (.func 37) #[] #[.pointer (some ⟨bt, 0, none⟩), .pointer (some ⟨bf, 0, none⟩)]] w fun e w' =>
      e = .returned (.tuple #[]) ∧ IM w' bm encM (m.map (fun p => (p.1, (delAt from_ to p.2, p.2.2)))) ∧ Only (· = bm) w w' := by
  have c0 := h.c0
  have hnd := h.im.nodup
  have HND := Lib.hid hnd
  clear hnd
  obtain ⟨w1, hrange, hir, hb1, hs1⟩ := h.im.range (P := Try.prog) mapT
  go_enter Try.func36, Try.ntmps36
  go_wp2
  clear hrange
  have hne := h.ne
  go_loopw [4] (fun _ wr => ∃ todo, IRange wr bm w.heap.size encM (changed (delAt from_ to) m todo) todo ∧ Only (· = bm) w wr) (fun _ wr => wr.rangeLeft bm w.heap.size)
  case atStart => exact ⟨m.map (·.1), by rw [changed_all]; exact hir, Only.of_below hb1⟩
  case round =>
    clear hir hb1 hs1 w1 c0
    obtain ⟨todo, hir, hon⟩ := hrel
    have hbk : wr.heap[b]? = w.heap[b]? := hon.block b h.lt hne
    have d0 := (World.cell?_of_block (w := w) (a := ⟨b, 0, none⟩) hbk).trans h.c0
    rcases hir.next (P := Try.prog) with ⟨rfl, hnx⟩ | ⟨k, v, w1, hk, hv, hnx, hir1, hg1, hsz1, hen⟩
    · go_wp2
      go_end0
      rw [changed_nil] at hir
      exact ⟨rfl, hir.im, hon⟩
    · obtain ⟨va, vb⟩ := v
      have HV := Lib.hid hv
      have HK := Lib.hid hk
      clear hv hk
      have hmem : (k, (va, vb)) ∈ m := changed_look HND.out HK.out HV.out
      have hat := h.ats _ hmem
      have HM := Lib.hid hmem
      clear hmem
      have hlt1 : w.heap.size < w1.heap.size := by have := hir.lt; omega
      have hbm1 : bm < w1.heap.size := hir1.im.lt
      have hblt : b < w1.heap.size := by have := h.lt; omega
      have hrb : b ≠ w.heap.size := by have := h.lt; omega
      go_wp2
      obtain ⟨W2, hW2⟩ : ∃ W2, w1.alloc (.cells #[.int .i64 va, .bool vb] 65) = W2 := ⟨_, rfl⟩
      have hal := MapKept.heap_alloc w1 (.cells #[.int .i64 va, .bool vb] 65)
      rw [hsz1] at hal
      have x0 : W2.cell? ⟨wr.heap.size, 0, none⟩ = some (.int .i64 va) := by rw [← hW2]; simp only [World.cell?, hal.1]; rfl
      have x1 : W2.cell? ⟨wr.heap.size, 1, none⟩ = some (.bool vb) := by rw [← hW2]; simp only [World.cell?, hal.1]; rfl
      have hz2 : W2.heap.size = wr.heap.size + 1 := by rw [← hW2]; simp [hsz1]
      have hb2 : Below w1.heap.size w1 W2 := by rw [← hW2]; exact below1 w1 _
      have hir2 : IRange W2 bm w.heap.size encM (changed (delAt from_ to) m todo) (todo.filter (· != k)) := hir1.kept (hb2.block bm hbm1) (hb2.block _ hlt1)
      have hon2 : Only (· = bm) w W2 := (hon.then (T := fun i => i = w.heap.size) (Only.of_grown hg1 rfl) (fun i hi hlt => by omega)).trans (Only.of_below hb2)
      rw [hW2]
      clear hW2 hal hnx hen hir1 d0 hb2 hg1
      have hlt2 := h.lt
      have e0 := (World.cell?_of_block (w := w) (a := ⟨b, 0, none⟩) (hon2.block b h.lt hne)).trans h.c0
      have ect := (World.cell?_of_block (w := w) (a := ⟨bt, 0, none⟩) (hon2.block bt (lt_of_cell ct) nct)).trans ct
      have lct := lt_of_cell ct
      have ecf := (World.cell?_of_block (w := w) (a := ⟨bf, 0, none⟩) (hon2.block bf (lt_of_cell cf) ncf)).trans cf
      have lcf := lt_of_cell cf
      have hs2 := hon2.size
      have hxlt : wr.heap.size < W2.heap.size := by omega
      have HZ2 := Lib.hid hz2
      have HZ1 := Lib.hid hsz1
      clear hz2 hsz1
      have C0 : ∀ x : UpW W2.heap.size W2, x.w.cell? ⟨b, 0, none⟩ = some (.map (some bm)) := fun x => (x.up.cell (p := ⟨b, 0, none⟩) (by show b < _; omega)).trans e0
      have C1 : ∀ x : UpW W2.heap.size W2, x.w.cell? ⟨wr.heap.size, 0, none⟩ = some (.int .i64 va) := fun x => (x.up.cell (p := ⟨wr.heap.size, 0, none⟩) hxlt).trans x0
      have C2 : ∀ x : UpW W2.heap.size W2, x.w.cell? ⟨wr.heap.size, 1, none⟩ = some (.bool vb) := fun x => (x.up.cell (p := ⟨wr.heap.size, 1, none⟩) hxlt).trans x1
      have Uct : ∀ x : UpW W2.heap.size W2, x.w.cell? ⟨bt, 0, none⟩ = some (.int .i64 to) := fun x => (x.up.cell (p := ⟨bt, 0, none⟩) (by show bt < _; omega)).trans ect
      have Ucf : ∀ x : UpW W2.heap.size W2, x.w.cell? ⟨bf, 0, none⟩ = some (.int .i64 from_) := fun x => (x.up.cell (p := ⟨bf, 0, none⟩) (by show bf < _; omega)).trans ecf
      clear x0 x1 ect ecf
      refine wp_region_up_tail W2.heap.size 11 (by kernel_rfl) (by kernel_rfl) ?_
      simp only [List.take_succ_cons, List.take_zero, List.drop_succ_cons, List.drop_zero]
      repeat (go_big_quiet_step ((go_at_call 37; exact Calls.up _ (Nat.le_refl _) (del1_any bt bf from_ to (va, vb) _ (Uct _) (Ucf _) hat hf hft ht))))
      refine wpQuiet_nil ?_
      rintro ⟨w3, hb3⟩
      dsimp only
      clear C0 C1 C2 Uct Ucf
      have hir3 := hir2.kept (hb3.block bm hir2.im.lt) (hb3.block _ hir2.lt)
      obtain ⟨w4, hrun, hir4, hg4, hsz4⟩ := hir3.store (P := Try.prog) mapT keyT (k := k) ((delAt from_ to) (va, vb), vb) (by rw [HV.out]; rfl)
      have hon4 : Only (· = bm) w w4 := (hon2.trans (Only.of_below hb3)).trans (Only.of_grown hg4 rfl)
      rw [changed_put HND.out HK.out HM.out HV.out] at hir4
      have hl1 := hir.left
      have hl4 := hir4.left
      have HL1 := Lib.hid hl1
      have HL4 := Lib.hid hl4
      clear hl1 hl4
      go_wp2
      go_roundw
      case rel => exact ⟨todo.filter (· != k), hir4, hon4⟩
      case measure =>
        rw [HL4.out, HL1.out]
        exact filter_lt_of_mem HK.out

set_option maxRecDepth 100000 in
set_option maxHeartbeats 2000000 in
theorem change_ins (ba bh bk : Nat) (a k_ : Int) (ahead : Bool) (h : MarksAt w b bm m n) (ca : w.cell? ⟨ba, 0, none⟩ = some (.int .i64 a)) (nca : ba ≠ bm) (ch : w.cell? ⟨bh, 0, none⟩ = some (.bool ahead)) (nch : bh ≠ bm) (ck : w.cell? ⟨bk, 0, none⟩ = some (.int .i64 k_)) (nck : bk ≠ bm) (hk0 : 0 ≤ k_) (hk1 : k_ ≤ 65536) :
    Calls Try.prog 36 #[.pointer (some ⟨b, 0, none⟩), .func (.func 38) #[] #[.pointer (some ⟨ba, 0, none⟩), .pointer (some ⟨bh, 0, none⟩), .pointer (some ⟨bk, 0, none⟩)]] w fun e w' =>
      e = .returned (.tuple #[]) ∧ IM w' bm encM (m.map (fun p => (p.1, (insAt a k_ ahead p.2, p.2.2)))) ∧ Only (· = bm) w w' := by
  have c0 := h.c0
  have hnd := h.im.nodup
  have HND := Lib.hid hnd
  clear hnd
  obtain ⟨w1, hrange, hir, hb1, hs1⟩ := h.im.range (P := Try.prog) mapT
  go_enter Try.func36, Try.ntmps36
  go_wp2
  clear hrange
  have hne := h.ne
  go_loopw [4] (fun _ wr => ∃ todo, IRange wr bm w.heap.size encM (changed (insAt a k_ ahead) m todo) todo ∧ Only (· = bm) w wr) (fun _ wr => wr.rangeLeft bm w.heap.size)
  case atStart => exact ⟨m.map (·.1), by rw [changed_all]; exact hir, Only.of_below hb1⟩
  case round =>
    clear hir hb1 hs1 w1 c0
    obtain ⟨todo, hir, hon⟩ := hrel
    have hbk : wr.heap[b]? = w.heap[b]? := hon.block b h.lt hne
    have d0 := (World.cell?_of_block (w := w) (a := ⟨b, 0, none⟩) hbk).trans h.c0
    rcases hir.next (P := Try.prog) with ⟨rfl, hnx⟩ | ⟨k, v, w1, hk, hv, hnx, hir1, hg1, hsz1, hen⟩
    · go_wp2
      go_end0
      rw [changed_nil] at hir
      exact ⟨rfl, hir.im, hon⟩
    · obtain ⟨va, vb⟩ := v
      have HV := Lib.hid hv
      have HK := Lib.hid hk
      clear hv hk
      have hmem : (k, (va, vb)) ∈ m := changed_look HND.out HK.out HV.out
      have hat := h.ats _ hmem
      have HM := Lib.hid hmem
      clear hmem
      have hlt1 : w.heap.size < w1.heap.size := by have := hir.lt; omega
      have hbm1 : bm < w1.heap.size := hir1.im.lt
      have hblt : b < w1.heap.size := by have := h.lt; omega
      have hrb : b ≠ w.heap.size := by have := h.lt; omega
      go_wp2
      obtain ⟨W2, hW2⟩ : ∃ W2, w1.alloc (.cells #[.int .i64 va, .bool vb] 65) = W2 := ⟨_, rfl⟩
      have hal := MapKept.heap_alloc w1 (.cells #[.int .i64 va, .bool vb] 65)
      rw [hsz1] at hal
      have x0 : W2.cell? ⟨wr.heap.size, 0, none⟩ = some (.int .i64 va) := by rw [← hW2]; simp only [World.cell?, hal.1]; rfl
      have x1 : W2.cell? ⟨wr.heap.size, 1, none⟩ = some (.bool vb) := by rw [← hW2]; simp only [World.cell?, hal.1]; rfl
      have hz2 : W2.heap.size = wr.heap.size + 1 := by rw [← hW2]; simp [hsz1]
      have hb2 : Below w1.heap.size w1 W2 := by rw [← hW2]; exact below1 w1 _
      have hir2 : IRange W2 bm w.heap.size encM (changed (insAt a k_ ahead) m todo) (todo.filter (· != k)) := hir1.kept (hb2.block bm hbm1) (hb2.block _ hlt1)
      have hon2 : Only (· = bm) w W2 := (hon.then (T := fun i => i = w.heap.size) (Only.of_grown hg1 rfl) (fun i hi hlt => by omega)).trans (Only.of_below hb2)
      rw [hW2]
      clear hW2 hal hnx hen hir1 d0 hb2 hg1
      have hlt2 := h.lt
      have e0 := (World.cell?_of_block (w := w) (a := ⟨b, 0, none⟩) (hon2.block b h.lt hne)).trans h.c0
      have eca := (World.cell?_of_block (w := w) (a := ⟨ba, 0, none⟩) (hon2.block ba (lt_of_cell ca) nca)).trans ca
      have lca := lt_of_cell ca
      have ech := (World.cell?_of_block (w := w) (a := ⟨bh, 0, none⟩) (hon2.block bh (lt_of_cell ch) nch)).trans ch
      have lch := lt_of_cell ch
      have eck := (World.cell?_of_block (w := w) (a := ⟨bk, 0, none⟩) (hon2.block bk (lt_of_cell ck) nck)).trans ck
      have lck := lt_of_cell ck
      have hs2 := hon2.size
      have hxlt : wr.heap.size < W2.heap.size := by omega
      have HZ2 := Lib.hid hz2
      have HZ1 := Lib.hid hsz1
      clear hz2 hsz1
      have C0 : ∀ x : UpW W2.heap.size W2, x.w.cell? ⟨b, 0, none⟩ = some (.map (some bm)) := fun x => (x.up.cell (p := ⟨b, 0, none⟩) (by show b < _; omega)).trans e0
      have C1 : ∀ x : UpW W2.heap.size W2, x.w.cell? ⟨wr.heap.size, 0, none⟩ = some (.int .i64 va) := fun x => (x.up.cell (p := ⟨wr.heap.size, 0, none⟩) hxlt).trans x0
      have C2 : ∀ x : UpW W2.heap.size W2, x.w.cell? ⟨wr.heap.size, 1, none⟩ = some (.bool vb) := fun x => (x.up.cell (p := ⟨wr.heap.size, 1, none⟩) hxlt).trans x1
      have Uca : ∀ x : UpW W2.heap.size W2, x.w.cell? ⟨ba, 0, none⟩ = some (.int .i64 a) := fun x => (x.up.cell (p := ⟨ba, 0, none⟩) (by show ba < _; omega)).trans eca
      have Uch : ∀ x : UpW W2.heap.size W2, x.w.cell? ⟨bh, 0, none⟩ = some (.bool ahead) := fun x => (x.up.cell (p := ⟨bh, 0, none⟩) (by show bh < _; omega)).trans ech
      have Uck : ∀ x : UpW W2.heap.size W2, x.w.cell? ⟨bk, 0, none⟩ = some (.int .i64 k_) := fun x => (x.up.cell (p := ⟨bk, 0, none⟩) (by show bk < _; omega)).trans eck
      clear x0 x1 eca ech eck
      refine wp_region_up_tail W2.heap.size 11 (by kernel_rfl) (by kernel_rfl) ?_
      simp only [List.take_succ_cons, List.take_zero, List.drop_succ_cons, List.drop_zero]
      repeat (go_big_quiet_step ((go_at_call 38; exact Calls.up _ (Nat.le_refl _) (ins1_any ba bh bk a k_ ahead (va, vb) _ (Uca _) (Uch _) (Uck _) hat hk0 hk1))))
      refine wpQuiet_nil ?_
      rintro ⟨w3, hb3⟩
      dsimp only
      clear C0 C1 C2 Uca Uch Uck
      have hir3 := hir2.kept (hb3.block bm hir2.im.lt) (hb3.block _ hir2.lt)
      obtain ⟨w4, hrun, hir4, hg4, hsz4⟩ := hir3.store (P := Try.prog) mapT keyT (k := k) ((insAt a k_ ahead) (va, vb), vb) (by rw [HV.out]; rfl)
      have hon4 : Only (· = bm) w w4 := (hon2.trans (Only.of_below hb3)).trans (Only.of_grown hg4 rfl)
      rw [changed_put HND.out HK.out HM.out HV.out] at hir4
      have hl1 := hir.left
      have hl4 := hir4.left
      have HL1 := Lib.hid hl1
      have HL4 := Lib.hid hl4
      clear hl1 hl4
      go_wp2
      go_roundw
      case rel => exact ⟨todo.filter (· != k), hir4, hon4⟩
      case measure =>
        rw [HL4.out, HL1.out]
        exact filter_lt_of_mem HK.out
end Go.Proofs.Ytlnpjdihdemgmaa
