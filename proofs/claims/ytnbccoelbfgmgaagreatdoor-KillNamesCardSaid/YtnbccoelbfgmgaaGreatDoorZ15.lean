import Derived.Test.YtnbccoelbfgmgaaGreatDoorZ14
import Derived.Test.YtnbccoelbfgmgaaGreatDoorZ10
/- package buffer: a plain buffer's state in plain Lean; put, take over it. -/
namespace Go.Proofs.YtnbccoelbfgmgaaGreatDoor
open Go.RowKit Go.Lib
set_option linter.unusedVariables false
set_option linter.unusedSimpArgs false
/-- The state of a plain buffer. -/
structure Tx where
  S : BS
  cs : List Nat
  G : List (List Chg)
  O : List Chg
  ch : Int
/-- Behind an insertion of the characters s at a. -/
def putT (T : Tx) (a : Nat) (s : List Nat) (bf : Bool) : Tx := if s.length = 0 then T else { T with S := putS T.S a s.length bf, cs := insC T.cs a s, O := noteO T.S T.O (insChg a s.length) }
/-- Behind a deletion of x .. y. -/
def takeT (T : Tx) (x y : Nat) : Tx := if x = y then T else { T with S := takeS T.S x y, cs := delC T.cs x y, O := noteO T.S T.O (delChg x (encS (subL T.cs x y))) }
/-- What is known besides of a plain buffer: its blocks lie in F; at most B was noted. -/
structure PBd (N b : Nat) (Fg Fl F : Nat → Prop) (mm : Nat) (T : Tx) (co nw : Int) (B : Nat) : Prop where
  abv : Abv N b Fg Fl T.S
  sane : Sane T.S T.cs.length
  foot : ∀ k, plFoot b Fg Fl mm T.S k → F k
  o : T.O.length ≤ B
  n0 : 0 ≤ nw
  n1 : nw ≤ B
  c0 : 0 ≤ co
  c1 : co ≤ B
  g : T.G.length ≤ B
  nz : T.O = [] → nw = 0
  tick : T.S.tick ≤ B
  logs : T.S.logs = true
def PB (N : Nat) (w : World) (b : Nat) (F : Nat → Prop) (T : Tx) (B : Nat) : Prop :=
  ∃ Fg Fl mm pr ev co nw, PlainX w b Fg Fl mm pr ev T.S T.cs ⟨T.G, T.O, T.ch, co, nw⟩ ∧ PBd N b Fg Fl F mm T co nw B
theorem PBd.mono {N b : Nat} {Fg Fl F F' : Nat → Prop} {mm : Nat} {T : Tx} {co nw : Int} {B B' : Nat} (h : PBd N b Fg Fl F mm T co nw B) (hF : ∀ k, F k → F' k) (hB : B ≤ B') : PBd N b Fg Fl F' mm T co nw B' :=
  ⟨h.abv, h.sane, fun k hk => hF k (h.foot k hk), by have := h.o; omega, h.n0, by have := h.n1; omega, h.c0, by have := h.c1; omega, by have := h.g; omega, h.nz, by have := h.tick; omega, h.logs⟩
theorem noteO_ne (S : BS) (O : List Chg) (c : Chg) : noteO S O c ≠ [] := by
  have : ∀ (O : List Chg) (c : Chg), logAdd O c ≠ [] := fun O c => by unfold logAdd; split <;> simp
  unfold noteO; split <;> exact this _ _
theorem noteO_len (S : BS) (O : List Chg) (c : Chg) : (noteO S O c).length ≤ O.length + 3 := by
  unfold noteO
  split
  · have h1 := logAdd_len (logAdd (if S.tick = S.clean then logAdd O cleanC else O) (pointC S.pt)) c
    have h2 := logAdd_len (if S.tick = S.clean then logAdd O cleanC else O) (pointC S.pt)
    have h3 : (if S.tick = S.clean then logAdd O cleanC else O).length ≤ O.length + 1 := by
      split
      · exact logAdd_len _ _
      · omega
    omega
  · have := logAdd_len O c; omega
theorem insN_mono {a n x y : Nat} {p q : Bool} (h : x ≤ y) (hpq : p = false ∨ q = true ∨ p = q) : insN a n x p ≤ insN a n y q := by
  unfold insN
  have : (p = true → q = true) := by rcases hpq with rfl | rfl | rfl <;> simp
  split <;> split
  · omega
  · rename_i h1 h2
    rcases h1 with h1 | ⟨h1, h3⟩
    · exact absurd (.inl (by omega)) h2
    · exact absurd (by rcases Nat.lt_or_ge a y with h | h; exact .inl h; exact .inr ⟨by omega, this h3⟩) h2
  · omega
  · omega
theorem insN_le {a n x : Nat} {p : Bool} : x ≤ insN a n x p ∧ insN a n x p ≤ x + n := by unfold insN; split <;> omega
theorem Sane.put {S : BS} {len : Nat} (h : Sane S len) (a n : Nat) (bf : Bool) : Sane (putS S a n bf) (len + n) := by
  have h1 := h.l1; have h2 := h.lp; have h3 := h.ph; have h4 := h.hn; have h5 := h.ma
  refine ⟨?_, ?_, ?_, ?_, ?_⟩
  · exact Nat.le_trans h1 (insN_le (a := a) (n := n)).1
  · exact insN_mono h2 (.inl rfl)
  · exact insN_mono h3 (.inr (.inl rfl))
  · have := (insN_le (a := a) (n := n) (x := S.hi) (p := true)).2; show insN a n S.hi true ≤ _; omega
  · have := (insN_le (a := a) (n := n) (x := S.mark) (p := bf)).2; show insN a n S.mark bf ≤ _; omega
theorem delN_mono {a b x y : Nat} (hab : a ≤ b) (h : x ≤ y) : delN a b x ≤ delN a b y := by unfold delN; (repeat' split) <;> omega
theorem delN_one {a b x : Nat} (hab : a ≤ b) (h1 : 1 ≤ a) (h : 1 ≤ x) : 1 ≤ delN a b x := by unfold delN; (repeat' split) <;> omega
theorem delN_top {a b x n : Nat} (hab : a ≤ b) (hb : b ≤ n + 1) (h : x ≤ n + 1) : delN a b x ≤ n - (b - a) + 1 := by unfold delN; (repeat' split) <;> omega
theorem Sane.take {S : BS} {len : Nat} (h : Sane S len) {x y : Nat} (h1 : 1 ≤ x) (hxy : x ≤ y) (hy : y ≤ len + 1) : Sane (takeS S x y) (len - (y - x)) := by
  refine ⟨?_, ?_, ?_, ?_, ?_⟩
  · exact delN_one hxy h1 h.l1
  · exact delN_mono hxy h.lp
  · exact delN_mono hxy h.ph
  · exact delN_top hxy hy h.hn
  · exact delN_top hxy hy h.ma
theorem insC_len {cs s : List Nat} {a : Nat} : (insC cs a s).length = cs.length + s.length := by unfold insC; simp; omega
theorem delC_len {cs : List Nat} {x y : Nat} (h1 : 1 ≤ x) (hxy : x ≤ y) (hy : y ≤ cs.length + 1) : (delC cs x y).length = cs.length - (y - x) := by unfold delC; simp; omega
section
variable {N : Nat} {w w' : World} {b mm : Nat} {F F' Fg Fl : Nat → Prop} {pr ev : Int} {T T' : Tx} {co nw co' nw' : Int} {B B' : Nat}
theorem PB.mono (h : PB N w b F T B) (hF : ∀ k, F k → F' k) (hB : B ≤ B') : PB N w b F' T B' := by
  obtain ⟨Fg, Fl, mm, pr, ev, co, nw, hx, hd⟩ := h; exact ⟨Fg, Fl, mm, pr, ev, co, nw, hx, hd.mono hF hB⟩
theorem PB.up (h : PB N w b F T B) (hb : Below w.heap.size w w') : PB N w' b F T B := by
  obtain ⟨Fg, Fl, mm, pr, ev, co, nw, hx, hd⟩ := h; exact ⟨Fg, Fl, mm, pr, ev, co, nw, hx.up hb, hd⟩
theorem PB.only {Z : Nat → Prop} (h : PB N w b F T B) (ho : Only Z w w') (hd : ∀ k, F k → ¬ Z k) : PB N w' b F T B := by
  obtain ⟨Fg, Fl, mm, pr, ev, co, nw, hx, hq⟩ := h; exact ⟨Fg, Fl, mm, pr, ev, co, nw, hx.only ho (fun k hk => hd k (hq.foot k hk)), hq⟩
theorem PB.bound (h : PB N w b F T B) : PB N w b (fun k => F k ∧ k < w.heap.size) T B := by
  obtain ⟨Fg, Fl, mm, pr, ev, co, nw, hx, hd⟩ := h
  exact ⟨Fg, Fl, mm, pr, ev, co, nw, hx, hd.abv, hd.sane, fun k hk => ⟨hd.foot k hk, hx.foot_lt hk⟩, hd.o, hd.n0, hd.n1, hd.c0, hd.c1, hd.g, hd.nz, hd.tick, hd.logs⟩
theorem PB.sane (h : PB N w b F T B) : Sane T.S T.cs.length := by obtain ⟨Fg, Fl, mm, pr, ev, co, nw, hx, hd⟩ := h; exact hd.sane
theorem PB.r (h : PB N w b F T B) : BufR w b T.cs T.S.pt T.S.lo T.S.hi := by obtain ⟨Fg, Fl, mm, pr, ev, co, nw, hx, hd⟩ := h; exact hx.r hd.sane
theorem PB.blk (h : PB N w b F T B) : BufB w b T.S := by obtain ⟨Fg, Fl, mm, pr, ev, co, nw, hx, hd⟩ := h; exact hx.blk
theorem PB.le (h : PB N w b F T B) : T.cs.length ≤ 65536 := by obtain ⟨Fg, Fl, mm, pr, ev, co, nw, hx, hd⟩ := h; exact hx.gap.le
theorem PB.cn (h : PB N w b F T B) : ∀ c ∈ T.cs, isN c := by obtain ⟨Fg, Fl, mm, pr, ev, co, nw, hx, hd⟩ := h; exact hx.gap.cn
theorem PB.logs (h : PB N w b F T B) : T.S.logs = true := by obtain ⟨Fg, Fl, mm, pr, ev, co, nw, hx, hd⟩ := h; exact hd.logs
theorem PB.getAt (h : PB N w b F T B) : GetAt w T.S.p (fun _ _ => none) := by obtain ⟨Fg, Fl, mm, pr, ev, co, nw, hx, hd⟩ := h; exact hx.getAt
theorem PB.prs (h : PB N w b F T B) : Blk w T.S.p 183 prC := by obtain ⟨Fg, Fl, mm, pr, ev, co, nw, hx, hd⟩ := h; exact hx.prs
theorem PB.size (h : PB N w b F T B) : ∀ w1, Below w.heap.size w w1 → Calls Tryz.prog 61 #[pAt T.S.t] w1 fun r w2 => r = .returned (.int .i64 T.cs.length) ∧ Below w1.heap.size w1 w2 := by
  obtain ⟨Fg, Fl, mm, pr, ev, co, nw, hx, hd⟩ := h; exact hx.size
theorem PB.inF (h : PB N w b F T B) : F b ∧ N ≤ b ∧ b < w.heap.size := by
  obtain ⟨Fg, Fl, mm, pr, ev, co, nw, hx, hd⟩ := h; exact ⟨hd.foot b (.inl rfl), hd.abv.b, hx.blk.lt⟩
theorem PBd.ed (h : PBd N b Fg Fl F mm T co nw B) : ∀ k, edFoot b Fg Fl T.S k → F k := fun k hk => h.foot k (by
  rcases hk with hk | hk | hk | hk | hk
  · exact .inl hk
  · exact .inr (.inl hk)
  · exact .inr (.inr (.inl hk))
  · exact .inr (.inr (.inr (.inr (.inr (.inl hk)))))
  · exact .inr (.inr (.inr (.inr (.inr (.inr hk))))))
/-- What comes of one edit. -/
theorem PB.step (hd : PBd N b Fg Fl F mm T co nw B) (hN : N ≤ w.heap.size) (hto : PlainTo w b Fg Fl mm pr ev T.S T'.S T'.cs ⟨T'.G, T'.O, T'.ch, co', nw'⟩ w')
    (hS : T'.S.m = T.S.m ∧ T'.S.p = T.S.p ∧ T'.S.o = T.S.o) (hs : Sane T'.S T'.cs.length) (ho : T'.O.length ≤ B') (n0 : 0 ≤ nw') (n1 : nw' ≤ B') (c0 : 0 ≤ co') (c1 : co' ≤ B') (hg : T'.G.length ≤ B') (nz : T'.O = [] → nw' = 0) (ht : T'.S.tick ≤ B') (hl : T'.S.logs = true) :
    Only F w w' ∧ PB N w' b (grow F w.heap.size) T' B' := by
  obtain ⟨hon, Fg', Fl', hx, h1, h2⟩ := hto
  refine ⟨hon.mono hd.ed, Fg', Fl', mm, pr, ev, co', nw', hx, hd.abv.to hN h1 h2 hS.2.1 hS.2.2, hs, fun k hk => ?_, ho, n0, n1, c0, c1, hg, nz, ht, hl⟩
  rcases hk with hk | hk | hk | hk | hk | hk | hk
  · exact .inl (hd.foot k (.inl hk))
  · exact (h1 k hk).elim (fun e => .inl (hd.foot k (.inr (.inl e)))) .inr
  · exact (h2 k hk).elim (fun e => .inl (hd.foot k (.inr (.inr (.inl e))))) .inr
  · rw [hS.1] at hk; exact .inl (hd.foot k (.inr (.inr (.inr (.inl hk)))))
  · exact .inl (hd.foot k (.inr (.inr (.inr (.inr (.inl hk))))))
  · rw [hS.2.1] at hk; exact .inl (hd.foot k (.inr (.inr (.inr (.inr (.inr (.inl hk)))))))
  · rw [hS.2.2] at hk; exact .inl (hd.foot k (.inr (.inr (.inr (.inr (.inr (.inr hk)))))))
theorem PB.nN (h : PB N w b F T B) : N ≤ w.heap.size := by have := h.inF; omega
/-- put over the state. -/
theorem pput (hT : Tabs N w) (hR : Rules N w) (h : PB N w b F T B) (hB : B ≤ 900000)
    (a : Nat) (ha1 : 1 ≤ a) (ha2 : a ≤ T.cs.length + 1) (s : ByteArray) (hs : s.size ≤ 262144) (hv : (charsD s.data.toList).isSome = true) (hfit : T.cs.length + (chrs s).length ≤ 65536) (bf : Bool) :
    Calls Tryz.prog 105 #[pAt b, .int .i64 a, .string s, .bool bf] w fun r w' => r = .returned (.tuple #[]) ∧ Only F w w' ∧ PB N w' b (grow F w.heap.size) (putT T a (chrs s) bf) (B + 4) := by
  have hN := h.nN
  obtain ⟨Fg, Fl, mm, pr, ev, co, nw, hx, hd⟩ := h
  have h1 := hd.o; have h2 := hd.n1; have h3 := hd.c1; have h4 := hd.tick; have h5 := hd.g; have h6 := hd.n0; have h7 := hd.c0
  refine (gput0 hT hR hx hd.logs hd.abv.b hd.abv.g hd.abv.l hd.sane (by omega) ⟨by dsimp only; omega, hd.n0, by dsimp only; omega, hd.c0, by dsimp only; omega⟩ a ha1 ha2 s hs hv hfit bf).mono ?_
  rintro r w' ⟨rfl, L', hL', hp⟩
  refine ⟨rfl, ?_⟩
  unfold PutL at hL'
  unfold putS0 at hp
  unfold putT
  by_cases h0 : (chrs s).length = 0
  · rw [if_pos h0] at hL' hp ⊢
    subst hL'
    have he : chrs s = [] := List.eq_nil_of_length_eq_zero h0
    have hi : insC T.cs a (chrs s) = T.cs := by unfold insC; rw [he]; simp
    rw [hi] at hp
    exact PB.step hd hN hp ⟨rfl, rfl, rfl⟩ hd.sane (by (try dsimp only); omega) hd.n0 (by (try dsimp only); omega) hd.c0 (by (try dsimp only); omega) (by (try dsimp only); omega) hd.nz (by (try dsimp only); omega) hd.logs
  · rw [if_neg h0] at hL' hp ⊢
    obtain ⟨q, hq, rfl⟩ := hL'
    have hno := noteO_len T.S T.O (insChg a (chrs s).length)
    exact PB.step (T' := { T with S := putS T.S a (chrs s).length bf, cs := insC T.cs a (chrs s), O := noteO T.S T.O (insChg a (chrs s).length) }) hd hN hp ⟨rfl, rfl, rfl⟩ (by rw [insC_len]; exact hd.sane.put _ _ _) (by dsimp only; omega) (by (try dsimp only); omega) (by (try dsimp only); omega) (by (try dsimp only); omega) (by (try dsimp only); omega) (by dsimp only; omega) (fun e => absurd e (noteO_ne _ _ _)) (by show T.S.tick + 1 ≤ _; omega) hd.logs
set_option maxHeartbeats 1000000 in
theorem takeE (x : Int) (w : World) : Calls Tryz.prog 120 #[pAt b, .int .i64 x, .int .i64 x] w fun r w' => r = .returned (.tuple #[]) ∧ w = w' := by
  go_enter Tryz.func120, Tryz.ntmps120
  go_wp2_with fail
  refine bodyPost_ret (results_none rfl _ _ _) rfl ?_
  exact ⟨rfl, rfl⟩
/-- take over the state. -/
theorem ptake (hT : Tabs N w) (hR : Rules N w) (h : PB N w b F T B) (hB : B ≤ 900000) (x y : Nat) (hx1 : 1 ≤ x) (hxy : x ≤ y) (hy : y ≤ T.cs.length + 1) :
    Calls Tryz.prog 120 #[pAt b, .int .i64 x, .int .i64 y] w fun r w' => r = .returned (.tuple #[]) ∧ Only F w w' ∧ PB N w' b (grow F w.heap.size) (takeT T x y) (B + (y - x) + 4) := by
  unfold takeT
  by_cases h0 : x = y
  · subst h0
    rw [if_pos rfl]
    exact (takeE x w).mono fun r w' ⟨hr, hw⟩ => ⟨hr, hw ▸ Only.refl _ _, hw ▸ h.mono (fun k hk => .inl hk) (by omega)⟩
  · rw [if_neg h0]
    have hN := h.nN
    have hle := h.le
    obtain ⟨Fg, Fl, mm, pr, ev, co, nw, hx, hd⟩ := h
    have h1 := hd.o; have h2 := hd.n1; have h3 := hd.c1; have h4 := hd.tick; have h5 := hd.g; have h6 := hd.n0; have h7 := hd.c0
    have hsn := hd.sane
    have g1 := hsn.l1; have g2 := hsn.lp; have g3 := hsn.ph; have g4 := hsn.hn; have g5 := hsn.ma
    refine (gtake hT hR hx hd.logs hd.abv.b hd.abv.g hd.abv.l ⟨by omega, by omega⟩ (by omega) (by omega) (by omega) (by omega) x y hx1 (by omega) hy ⟨by dsimp only; omega, hd.n0, by dsimp only; omega, hd.c0, by dsimp only; omega⟩).mono ?_
    rintro r w' ⟨rfl, q, hq, hp⟩
    have hno := noteO_len T.S T.O (delChg x (encS (subL T.cs x y)))
    exact ⟨rfl, PB.step (T' := { T with S := takeS T.S x y, cs := delC T.cs x y, O := noteO T.S T.O (delChg x (encS (subL T.cs x y))) }) hd hN hp ⟨rfl, rfl, rfl⟩ (by rw [delC_len hx1 hxy hy]; exact hsn.take hx1 hxy hy) (by dsimp only; omega) (by (try dsimp only); omega) (by (try dsimp only); omega) (by (try dsimp only); omega) (by (try dsimp only); omega) (by dsimp only; omega) (fun e => absurd e (noteO_ne _ _ _)) (by show T.S.tick + 1 ≤ _; omega) hd.logs⟩
/-- One cell of the buffer turned. -/
theorem PB.cell {j : Nat} {v : Value} {S2 : BS} (h : PB N w b F T B) (hj : j < 19) (he : (bufC T.S).set j v (by simpa using hj) = bufC S2) (h2 : S2.t = T.S.t ∧ S2.m = T.S.m ∧ S2.p = T.S.p ∧ S2.o = T.S.o ∧ S2.l = T.S.l ∧ S2.saved = T.S.saved)
    (hs : Sane S2 T.cs.length) (ht : S2.tick ≤ B) (hl : S2.logs = true) : Only F w (w.setCell ⟨b, j, none⟩ v) ∧ PB N (w.setCell ⟨b, j, none⟩ v) b (grow F w.heap.size) { T with S := S2 } B := by
  have hN := h.nN
  obtain ⟨Fg, Fl, mm, pr, ev, co, nw, hx, hd⟩ := h
  exact PB.step (T' := { T with S := S2 }) hd hN ((PlainTo.refl hx).cell hj he h2) ⟨h2.2.1, h2.2.2.1, h2.2.2.2.1⟩ hs hd.o hd.n0 hd.n1 hd.c0 hd.c1 hd.g hd.nz ht hl
end
end Go.Proofs.YtnbccoelbfgmgaaGreatDoor
/- package buffer: Insert, InsertAhead, Put, Delete, Replace, Goto at a plain buffer. -/
namespace Go.Proofs.YtnbccoelbfgmgaaGreatDoor
open Go.RowKit Go.Lib
set_option linter.unusedVariables false
set_option linter.unusedSimpArgs false
theorem reach_iff {S : BS} {x y : Int} : reachB S x y = true ↔ (S.lo : Int) ≤ x ∧ x ≤ y ∧ y ≤ (S.hi : Int) := by unfold reachB; simp [and_assoc]
theorem reach_of0 {S : BS} {x y : Int} (h : (if reachB S x y = true then (0 : Int) else 3) = 0) : (S.lo : Int) ≤ x ∧ x ≤ y ∧ y ≤ (S.hi : Int) := by
  split at h
  · rename_i h1; exact reach_iff.1 h1
  · omega
theorem fits0 {s : ByteArray} {n : Nat} {less : Int} (h : fitsE s n less = 0) : (charsD s.data.toList).isSome = true ∧ (n : Int) - less + ((chrs s).length : Int) ≤ 65536 := by
  unfold fitsE at h
  split at h
  · rename_i hv
    rw [vld_chars] at hv
    rw [rlenG_chars hv] at h
    split at h
    · omega
    · exact ⟨hv, by omega⟩
  · omega
theorem firstE3 (a b c : Chk) : firstE [a, b, c] = if a.e = 0 then (if b.e = 0 then c.e else b.e) else a.e := by
  simp only [firstE]; repeat' split
  all_goals first | rfl | (rename_i h; exact h.symm) | omega
theorem firstE2 (a b : Chk) : firstE [a, b] = if a.e = 0 then b.e else a.e := by
  simp only [firstE]; repeat' split
  all_goals first | rfl | (rename_i h; exact h.symm) | omega
/-- What Put, Delete, Replace answer at a plain buffer that is not read-only. -/
def putEr (T : Tx) (a : Int) (s : ByteArray) : Int := if reachB T.S a a = true then fitsE s T.cs.length 0 else 3
def delE (T : Tx) (x y : Int) : Int := if reachB T.S x y = true then 0 else 3
def repE (T : Tx) (x y : Int) (s : ByteArray) : Int := if reachB T.S x y = true then fitsE s T.cs.length (y - x) else 3
/-- Behind insert. -/
def insT (T : Tx) (s : List Nat) (bf : Bool) : Tx := { putT T T.S.pt s bf with S := { (putT T T.S.pt s bf).S with pt := T.S.pt + s.length } }
section
variable {N : Nat} {w w' : World} {b mm : Nat} {F F' Fg Fl : Nat → Prop} {pr ev : Int} {T T' : Tx} {co nw co' nw' : Int} {B B' : Nat}
theorem PB.stay (h : PB N w b F T B) (hb : Below w.heap.size w w') (d : Nat) : Only F w w' ∧ PB N w' b (grow F w.heap.size) T (B + d) := ⟨Only.of_below hb, (h.up hb).mono (fun k hk => .inl hk) (by omega)⟩
theorem PB.then {w1 w2 : World} {T1 T2 : Tx} {B1 B2 : Nat} (hb : Below w.heap.size w w1) (h : Only F w1 w2 ∧ PB N w2 b (grow F w1.heap.size) T2 B2) : Only F w w2 ∧ PB N w2 b (grow F w.heap.size) T2 B2 :=
  ⟨(Only.of_below hb).trans h.1, h.2.mono (grow_mono (fun k h => h) hb.size) (Nat.le_refl _)⟩
theorem PB.next {w1 w2 : World} {T2 : Tx} {B2 : Nat} (h1 : Only F w w1) (h : Only (grow F w.heap.size) w1 w2 ∧ PB N w2 b (grow (grow F w.heap.size) w1.heap.size) T2 B2) : Only F w w2 ∧ PB N w2 b (grow F w.heap.size) T2 B2 :=
  ⟨Only.grow h1 h.1, h.2.mono (grow_two h1.size) (Nat.le_refl _)⟩
theorem PB.post {w1 w2 : World} {F0 : Nat → Prop} {T2 : Tx} {B2 : Nat} (h : Only F0 w w1 ∧ PB N w1 b F T2 B2) (hb : Below w1.heap.size w1 w2) : Only F0 w w2 ∧ PB N w2 b F T2 B2 := ⟨h.1.trans (Only.of_below hb), h.2.up hb⟩
theorem Abv0 (h : PB N w b F T B) (hF : ∀ k, F k → N ≤ k) : True := trivial
/-- A buffer's blocks that may turn lie from N on: tables below N stay. -/
def edF (N : Nat) (F : Nat → Prop) : Prop := ∀ k, F k → N ≤ k
theorem edF.grow {n : Nat} (h : edF N F) (hn : N ≤ n) : edF N (grow F n) := fun k hk => hk.elim (h k) (fun e => by omega)
set_option maxRecDepth 100000 in
set_option maxHeartbeats 4000000 in
theorem bPut (hT : Tabs N w) (hR : Rules N w) (h : PB N w b F T B) (hF : edF N F) (hB : B ≤ 900000) (hro : T.S.ro = false) (a : Int) (s : ByteArray) (hs : s.size ≤ 262144) :
    Calls Tryz.prog 98 #[pAt b, .int .i64 a, .string s] w fun r w' => r = .returned (.int .i64 (putEr T a s)) ∧ Only F w w' ∧ PB N w' b (grow F w.heap.size) (if putEr T a s = 0 then putT T a.toNat (chrs s) false else T) (B + 4) := by
  have hle := h.le
  have hsn := h.sane
  have hgp := gapB_free (S := T.S) hro a
  have hsl := chrs_len s
  have HB := Lib.hid (⟨hB, hs, hle, hsl, hsn, hF⟩ : _ ∧ _ ∧ _ ∧ _ ∧ _ ∧ _)
  have HT := Lib.hid hT
  have HR := Lib.hid hR
  have H := Lib.hid h
  have HN := Lib.hid (bnoneB h.blk)
  have HG := Lib.hid hgp
  obtain ⟨E1, hE1⟩ : ∃ E1 : Int, E1 = if reachB T.S a a = true then 0 else 3 := ⟨_, rfl⟩
  obtain ⟨E3, hE3⟩ : ∃ E3 : Int, E3 = fitsE s T.cs.length 0 := ⟨_, rfl⟩
  have hPE : putEr T a s = if E1 = 0 then E3 else E1 := by
    unfold putEr; rw [hE1, hE3]; split <;> simp
  obtain ⟨E, hE⟩ : ∃ E : Int, E = putEr T a s := ⟨_, rfl⟩
  rw [← hE] at hPE ⊢
  obtain ⟨T2, hT2⟩ : ∃ T2 : Tx, T2 = (if E = 0 then putT T a.toNat (chrs s) false else T) := ⟨_, rfl⟩
  rw [← hT2]
  have HT2 := Lib.hid hT2
  clear hT2
  have HE1 := Lib.hid hE1
  have HE3 := Lib.hid hE3
  have HPE := Lib.hid hPE
  have HE := Lib.hid hE
  clear hT hR h hB hs hle hsl hsn hF hgp hro hE1 hE3 hPE hE
  go_enter Tryz.func98, Tryz.ntmps98
  go_wp2_with fail
  refine HN.out.mono ?_
  rintro e w0 ⟨rfl, rfl⟩
  go_wp2_with fail
  refine (within_ok H.out.blk a a).mono ?_
  rintro e w1 ⟨k1, k2, rfl, hb1, hc1⟩
  rw [← HE1.out] at hc1 ⊢
  have C1 := Lib.hid hc1
  have B1 := Lib.hid hb1
  clear hc1 hb1 HN
  go_wp2_with fail
  refine (gapOpen_ok (H.out.blk.up B1.out) (H.out.up B1.out).getAt a).mono ?_
  rintro e w2 ⟨k3, k4, rfl, hb2, hc2⟩
  rw [HG.out] at hc2 ⊢
  change ChkAt w2 _ (unlC k3 k4 0) at hc2
  have C2 := Lib.hid hc2
  have B2 := Lib.hid (up2 B1.out hb2)
  have C12 := Lib.hid (C1.out.up hb2)
  clear hc2 hb2 C1 B1
  go_wp2_with fail
  refine (fits_ok (n := T.cs.length) (HT.out.up B2.out) (H.out.blk.up B2.out) s (by have := HB.out; omega) 0 (by have := HB.out; omega) (H.out.up B2.out).size).mono ?_
  rintro e w3 ⟨k5, k6, k7, rfl, hb3, hc3⟩
  rw [← HE3.out] at hc3 ⊢
  have C3 := Lib.hid hc3
  have B3 := Lib.hid (up2 B2.out hb3)
  have C13 := Lib.hid (C12.out.up hb3)
  have C23 := Lib.hid (C2.out.up hb3)
  clear hc3 hb3 C2 B2 C12
  go_wp2_with fail
  have hb4 := below1 w3 (.cells #[(unlC k1 k2 E1).val, (unlC k3 k4 0).val, (fitC k5 k6 k7 E3).val] 67)
  have hR3 := RSl.arr (enc := encK) (zs := [unlC k1 k2 E1, unlC k3 k4 0, fitC k5 k6 k7 E3]) (MapKept.heap_alloc w3 (.cells #[(unlC k1 k2 E1).val, (unlC k3 k4 0).val, (fitC k5 k6 k7 E3).val] 67)).1 rfl
  have HF := first_any hR3 3 (by simp) (by
    intro c hc
    simp only [List.mem_cons, List.not_mem_nil, or_false] at hc
    rcases hc with rfl | rfl | rfl
    · exact C13.out.en
    · exact C23.out.en
    · exact C3.out.en) (by
    intro i c w4 hi hz hb
    rcases i with _ | _ | _ | i
    · cases hi; exact C13.out.run trivial w4 (up2 hb4 hb)
    · cases hi
      have h0 : E1 = 0 := hz 0 (unlC k1 k2 E1) rfl (by omega)
      have hq := reach_of0 (HE1.out.symm.trans h0)
      exact C23.out.run ⟨by omega, by have := HB.out.2.2.2.2.1.hn; have := HB.out; omega⟩ w4 (up2 hb4 hb)
    · cases hi; exact C3.out.run ⟨by omega, by omega⟩ w4 (up2 hb4 hb)
    · simp at hi)
  have B4 := Lib.hid (up2 B3.out hb4)
  have hfe : firstE [unlC k1 k2 E1, unlC k3 k4 0, fitC k5 k6 k7 E3] = E := by
    rw [firstE3, HPE.out]; rfl
  rw [hfe] at HF
  have HF := Lib.hid HF
  clear hR3 hb4 C13 C23 C3 B3 hfe
  refine HF.out.mono ?_
  rintro e w5 ⟨rfl, hb5⟩
  have B5 := Lib.hid (up2 B4.out hb5)
  clear hb5 B4 HF
  by_cases hE : E = 0
  · have h1 : E1 = 0 := by
      have h2 := HPE.out
      rw [hE] at h2
      split at h2
      · assumption
      · exact h2.symm
    have hq := reach_of0 (HE1.out.symm.trans h1)
    have h3 : E3 = 0 := by have h2 := HPE.out; rw [if_pos h1, hE] at h2; exact h2.symm
    have hft := fits0 (HE3.out.symm.trans h3)
    have hsn := HB.out.2.2.2.2.1
    have g1 := hsn.l1
    have g4 := hsn.hn
    have H5 := Lib.hid (H.out.up B5.out)
    obtain ⟨n, hn⟩ : ∃ n : Nat, a = n := ⟨a.toNat, by omega⟩
    have HX := Lib.hid (pput (HT.out.up B5.out) (HR.out.up B5.out) H5.out HB.out.1 n (by omega) (by omega) s HB.out.2.1 hft.1 (by omega) false)
    rw [← hn] at HX
    have HE0 := Lib.hid hE
    have HNN := Lib.hid (show a.toNat = n by omega)
    clear hq hft hsn g1 g4 h1 h3 hn
    rw [hE]
    go_wp2_with fail
    refine HX.out.mono ?_
    rintro e w6 ⟨rfl, hp6⟩
    have HP6 := Lib.hid (PB.then (T1 := T) (B1 := B) B5.out hp6)
    clear hp6
    go_wp2_with fail
    go_ret
    refine ⟨by rw [HE0.out]; rfl, ?_⟩
    rw [HT2.out, if_pos HE0.out, HNN.out]
    exact HP6.out
  · have e1 : ((E : Int) == 0) = false := by simpa using hE
    have e2 : (E = 0) = False := eq_false hE
    have HEN := Lib.hid hE
    clear hE
    go_wp2_with fail
    go_ret
    refine ⟨rfl, ?_⟩
    rw [HT2.out, if_neg HEN.out]
    exact H.out.stay B5.out 4
set_option maxRecDepth 100000 in
set_option maxHeartbeats 4000000 in
theorem pinsert (hT : Tabs N w) (hR : Rules N w) (h : PB N w b F T B) (hB : B ≤ 900000) (hro : T.S.ro = false) (s : ByteArray) (hs : s.size ≤ 262144) (bf : Bool) :
    Calls Tryz.prog 56 #[pAt b, .string s, .bool bf] w fun r w' => r = .returned (.int .i64 (fitsE s T.cs.length 0)) ∧ Only F w w' ∧ PB N w' b (grow F w.heap.size) (if fitsE s T.cs.length 0 = 0 then insT T (chrs s) bf else T) (B + 4) := by
  have hN := h.nN
  have hst := fun w' (hb : Below w.heap.size w w') => h.stay hb 4
  obtain ⟨Fg, Fl, mm, pr, ev, co, nw, hx, hd⟩ := h
  have h1 := hd.o; have h2 := hd.n1; have h3 := hd.c1; have h4 := hd.tick; have h5 := hd.g; have h6 := hd.n0; have h7 := hd.c0
  refine (binsert hT hR hx hd.logs hro hd.abv hd.sane (by omega) ⟨by dsimp only; omega, hd.n0, by dsimp only; omega, hd.c0, by dsimp only; omega⟩ s hs bf).mono ?_
  rintro r w' ⟨rfl, hA, hC⟩
  refine ⟨rfl, ?_⟩
  by_cases hE : fitsE s T.cs.length 0 = 0
  · rw [if_pos hE]
    obtain ⟨L', hL', hp⟩ := hC hE
    have hsn := hd.sane
    have g1 := hsn.l1; have g2 := hsn.lp; have g3 := hsn.ph; have g4 := hsn.hn; have g5 := hsn.ma
    unfold PutL at hL'
    unfold putS0 at hp
    unfold insT putT
    by_cases h0 : (chrs s).length = 0
    · rw [if_pos h0] at hL' hp ⊢
      subst hL'
      have he : chrs s = [] := List.eq_nil_of_length_eq_zero h0
      have hi : insC T.cs T.S.pt (chrs s) = T.cs := by unfold insC; rw [he]; simp
      rw [hi] at hp
      exact PB.step (T' := { T with S := { T.S with pt := T.S.pt + (chrs s).length } }) hd hN hp ⟨rfl, rfl, rfl⟩ ⟨g1, by show T.S.lo ≤ T.S.pt + (chrs s).length; omega, by show T.S.pt + (chrs s).length ≤ T.S.hi; omega, g4, g5⟩ (by dsimp only; omega) hd.n0 (by (try dsimp only); omega) hd.c0 (by (try dsimp only); omega) (by dsimp only; omega) hd.nz (by dsimp only; omega) hd.logs
    · rw [if_neg h0] at hL' hp ⊢
      obtain ⟨q, hq, rfl⟩ := hL'
      have hno := noteO_len T.S T.O (insChg T.S.pt (chrs s).length)
      have hs2 := hsn.put T.S.pt (chrs s).length bf
      have hlo : insN T.S.pt (chrs s).length T.S.lo false ≤ T.S.pt := by unfold insN; rw [if_neg (by rintro (h | h); omega; exact absurd h.2 (by simp))]; exact g2
      have hhi : insN T.S.pt (chrs s).length T.S.hi true = T.S.hi + (chrs s).length := by unfold insN; rw [if_pos (by rcases Nat.lt_or_ge T.S.pt T.S.hi with h | h; exact .inl h; exact .inr ⟨by omega, rfl⟩)]
      refine PB.step (T' := { T with S := { putS T.S T.S.pt (chrs s).length bf with pt := T.S.pt + (chrs s).length }, cs := insC T.cs T.S.pt (chrs s), O := noteO T.S T.O (insChg T.S.pt (chrs s).length) }) hd hN hp ⟨rfl, rfl, rfl⟩ ?_ (by dsimp only; omega) (by (try dsimp only); omega) (by (try dsimp only); omega) (by (try dsimp only); omega) (by (try dsimp only); omega) (by dsimp only; omega) (fun e => absurd e (noteO_ne _ _ _)) (by show T.S.tick + 1 ≤ _; omega) hd.logs
      rw [insC_len]
      refine ⟨hs2.l1, ?_, ?_, hs2.hn, hs2.ma⟩
      · show insN T.S.pt (chrs s).length T.S.lo false ≤ T.S.pt + (chrs s).length; omega
      · show T.S.pt + (chrs s).length ≤ insN T.S.pt (chrs s).length T.S.hi true; omega
  · rw [if_neg hE]
    exact hst w' (hA hE)
set_option maxHeartbeats 1000000 in
theorem bInsert (hT : Tabs N w) (hR : Rules N w) (h : PB N w b F T B) (hB : B ≤ 900000) (hro : T.S.ro = false) (s : ByteArray) (hs : s.size ≤ 262144) :
    Calls Tryz.prog 21 #[pAt b, .string s] w fun r w' => r = .returned (.int .i64 (fitsE s T.cs.length 0)) ∧ Only F w w' ∧ PB N w' b (grow F w.heap.size) (if fitsE s T.cs.length 0 = 0 then insT T (chrs s) false else T) (B + 4) := by
  have HI := Lib.hid (pinsert hT hR h hB hro s hs false)
  clear hT hR h hs hB hro
  generalize (if fitsE s T.cs.length 0 = 0 then insT T (chrs s) false else T) = T2 at *
  generalize fitsE s T.cs.length 0 = E at *
  go_enter Tryz.func21, Tryz.ntmps21
  go_wp2_with fail
  refine HI.out.mono ?_
  rintro r w' ⟨rfl, h1, h2⟩
  have H1 := Lib.hid h1
  have H2 := Lib.hid h2
  clear h1 h2
  go_wp2_with fail
  go_ret
  exact ⟨rfl, H1.out, H2.out⟩
set_option maxRecDepth 100000 in
set_option maxHeartbeats 4000000 in
theorem bDelete (hT : Tabs N w) (hR : Rules N w) (h : PB N w b F T B) (hF : edF N F) (hB : B ≤ 900000) (hro : T.S.ro = false) (x y : Int) :
    Calls Tryz.prog 89 #[pAt b, .int .i64 x, .int .i64 y] w fun r w' => r = .returned (.int .i64 (delE T x y)) ∧ Only F w w' ∧ PB N w' b (grow F w.heap.size) (if delE T x y = 0 then takeT T x.toNat y.toNat else T) (B + T.cs.length + 4) := by
  have hle := h.le
  have hsn := h.sane
  have hpb : partB T.S = true := by unfold partB; rw [hro]; simp
  have HB := Lib.hid (⟨hB, hle, hsn, hF⟩ : _ ∧ _ ∧ _ ∧ _)
  have HT := Lib.hid hT
  have HR := Lib.hid hR
  have H := Lib.hid h
  have HN := Lib.hid (bnoneB h.blk)
  have HG := Lib.hid hpb
  obtain ⟨E, hE⟩ : ∃ E : Int, E = delE T x y := ⟨_, rfl⟩
  rw [← hE]
  obtain ⟨T2, hT2⟩ : ∃ T2 : Tx, T2 = (if E = 0 then takeT T x.toNat y.toNat else T) := ⟨_, rfl⟩
  rw [← hT2]
  have HT2 := Lib.hid hT2
  clear hT2
  unfold delE at hE
  have HE := Lib.hid hE
  clear hT hR h hB hle hsn hF hpb hro hE
  go_enter Tryz.func89, Tryz.ntmps89
  go_wp2_with fail
  refine HN.out.mono ?_
  rintro e w0 ⟨rfl, rfl⟩
  go_wp2_with fail
  refine (within_ok H.out.blk x y).mono ?_
  rintro e w1 ⟨k1, k2, rfl, hb1, hc1⟩
  rw [← HE.out] at hc1 ⊢
  have C1 := Lib.hid hc1
  have B1 := Lib.hid hb1
  clear hc1 hb1 HN
  go_wp2_with fail
  refine (partOpen_ok (H.out.blk.up B1.out) (H.out.up B1.out).prs x y).mono ?_
  rintro e w2 ⟨k3, k4, rfl, hb2, hc2⟩
  rw [HG.out] at hc2 ⊢
  change ChkAt w2 _ (unlC k3 k4 0) at hc2
  have C2 := Lib.hid hc2
  have B2 := Lib.hid (up2 B1.out hb2)
  have C12 := Lib.hid (C1.out.up hb2)
  clear hc2 hb2 C1 B1
  go_wp2_with fail
  have hb4 := below1 w2 (.cells #[(unlC k1 k2 E).val, (unlC k3 k4 0).val] 67)
  have hR3 := RSl.arr (enc := encK) (zs := [unlC k1 k2 E, unlC k3 k4 0]) (MapKept.heap_alloc w2 (.cells #[(unlC k1 k2 E).val, (unlC k3 k4 0).val] 67)).1 rfl
  have HF := first_any hR3 2 (by simp) (by
    intro c hc
    simp only [List.mem_cons, List.not_mem_nil, or_false] at hc
    rcases hc with rfl | rfl
    · exact C12.out.en
    · exact C2.out.en) (by
    intro i c w4 hi hz hb
    rcases i with _ | _ | i
    · cases hi; exact C12.out.run trivial w4 (up2 hb4 hb)
    · cases hi
      have h0 : E = 0 := hz 0 (unlC k1 k2 E) rfl (by omega)
      have hq := reach_of0 (HE.out.symm.trans h0)
      exact C2.out.run ⟨by have := HB.out.2.2.1.l1; omega, by omega, by have := HB.out.2.2.1.hn; have := HB.out; omega⟩ w4 (up2 hb4 hb)
    · simp at hi)
  have B4 := Lib.hid (up2 B2.out hb4)
  have hfe : firstE [unlC k1 k2 E, unlC k3 k4 0] = E := by
    rw [firstE2]; show (if E = 0 then 0 else E) = E; split <;> simp [*]
  rw [hfe] at HF
  have HF := Lib.hid HF
  clear hR3 hb4 C12 C2 B2 hfe
  refine HF.out.mono ?_
  rintro e w5 ⟨rfl, hb5⟩
  have B5 := Lib.hid (up2 B4.out hb5)
  clear hb5 B4 HF
  by_cases hE : E = 0
  · have hq := reach_of0 (HE.out.symm.trans hE)
    have hsn := HB.out.2.2.1
    have g1 := hsn.l1
    have g4 := hsn.hn
    have H5 := Lib.hid (H.out.up B5.out)
    obtain ⟨n, hn⟩ : ∃ n : Nat, x = n := ⟨x.toNat, by omega⟩
    obtain ⟨m, hm⟩ : ∃ m : Nat, y = m := ⟨y.toNat, by omega⟩
    have HX := Lib.hid (ptake (HT.out.up B5.out) (HR.out.up B5.out) H5.out HB.out.1 n m (by omega) (by omega) (by omega))
    rw [← hn, ← hm] at HX
    have HE0 := Lib.hid hE
    have HNN := Lib.hid (⟨show x.toNat = n by omega, show y.toNat = m by omega, show B + (m - n) + 4 ≤ B + T.cs.length + 4 by omega⟩ : _ ∧ _ ∧ _)
    clear hq hsn g1 g4 hn hm
    rw [hE]
    go_wp2_with fail
    refine HX.out.mono ?_
    rintro e w6 ⟨rfl, hp6⟩
    have HP6 := Lib.hid (PB.then (T1 := T) (B1 := B) B5.out hp6)
    clear hp6
    go_wp2_with fail
    go_ret
    refine ⟨by rw [HE0.out]; rfl, ?_⟩
    rw [HT2.out, if_pos HE0.out, HNN.out.1, HNN.out.2.1]
    exact ⟨HP6.out.1, HP6.out.2.mono (fun k hk => hk) HNN.out.2.2⟩
  · have e1 : ((E : Int) == 0) = false := by simpa using hE
    have e2 : (E = 0) = False := eq_false hE
    have HEN := Lib.hid hE
    clear hE
    go_wp2_with fail
    go_ret
    refine ⟨rfl, ?_⟩
    rw [HT2.out, if_neg HEN.out]
    exact H.out.stay B5.out (T.cs.length + 4)
set_option maxRecDepth 100000 in
set_option maxHeartbeats 4000000 in
theorem gotoB {S : BS} (h : BufB w b S) (a : Int) :
    Calls Tryz.prog 20 #[pAt b, .int .i64 a] w fun r w' => r = .returned (.int .i64 (if reachB S a a = true then 0 else 3)) ∧ (reachB S a a = false → Below w.heap.size w w') ∧ (reachB S a a = true → ∃ w1, Below w.heap.size w w1 ∧ w' = w1.setCell ⟨b, 0, none⟩ (.int .i64 a)) := by
  have H := Lib.hid h
  obtain ⟨E, hE⟩ : ∃ E : Int, E = if reachB S a a = true then 0 else 3 := ⟨_, rfl⟩
  rw [← hE]
  have HE := Lib.hid hE
  have HM := Lib.hid (ChkAt.made h)
  clear h hE
  go_enter Tryz.func20, Tryz.ntmps20
  go_wp2_with fail
  refine (within_ok H.out a a).mono ?_
  rintro e w1 ⟨k1, k2, rfl, hb1, hc1⟩
  rw [← HE.out] at hc1 ⊢
  have C1 := Lib.hid hc1
  have B1 := Lib.hid hb1
  have M1 := Lib.hid (HM.out.up hb1)
  clear hc1 hb1 HM
  go_wp2_with fail
  have hb4 := below1 w1 (.cells #[(madeC b).val, (unlC k1 k2 E).val] 67)
  have hR3 := RSl.arr (enc := encK) (zs := [madeC b, unlC k1 k2 E]) (MapKept.heap_alloc w1 (.cells #[(madeC b).val, (unlC k1 k2 E).val] 67)).1 rfl
  have HF := first_any hR3 2 (by simp) (by
    intro c hc
    simp only [List.mem_cons, List.not_mem_nil, or_false] at hc
    rcases hc with rfl | rfl
    · exact M1.out.en
    · exact C1.out.en) (by
    intro i c w4 hi hz hb
    rcases i with _ | _ | i
    · cases hi; exact M1.out.run trivial w4 (up2 hb4 hb)
    · cases hi; exact C1.out.run trivial w4 (up2 hb4 hb)
    · simp at hi)
  have B4 := Lib.hid (up2 B1.out hb4)
  have hfe : firstE [madeC b, unlC k1 k2 E] = E := by
    rw [firstE2]; rfl
  rw [hfe] at HF
  have HF := Lib.hid HF
  clear hR3 hb4 C1 M1 B1 hfe
  refine HF.out.mono ?_
  rintro e w5 ⟨rfl, hb5⟩
  have B5 := Lib.hid (up2 B4.out hb5)
  clear hb5 B4 HF
  by_cases hq : reachB S a a = true
  · have hE := HE.out
    rw [if_pos hq] at hE
    have q0 := (H.out.up B5.out).cell (j := 0) rfl
    have f0 := (H.out.up B5.out).fz 0
    have HQ := Lib.hid hq
    clear hq
    rw [hE]
    clear hE
    go_wp2_with fail
    go_ret
    refine ⟨by rw [HE.out, if_pos HQ.out]; rfl, fun h => absurd (HQ.out.symm.trans h) (by simp), fun _ => ⟨w5, B5.out, rfl⟩⟩
  · have hE := HE.out
    rw [if_neg hq] at hE
    have HQ := Lib.hid hq
    clear hq
    rw [hE]
    clear hE
    go_wp2_with fail
    go_ret
    exact ⟨by rw [HE.out, if_neg HQ.out]; rfl, fun _ => B5.out, fun h => absurd h HQ.out⟩
theorem bGoto (h : PB N w b F T B) (a : Int) :
    Calls Tryz.prog 20 #[pAt b, .int .i64 a] w fun r w' => r = .returned (.int .i64 (delE T a a)) ∧ Only F w w' ∧ PB N w' b (grow F w.heap.size) (if delE T a a = 0 then { T with S := { T.S with pt := a.toNat } } else T) B := by
  refine (gotoB h.blk a).mono ?_
  rintro r w' ⟨hr, h1, h2⟩
  refine ⟨hr, ?_⟩
  have hsn := h.sane
  unfold delE
  by_cases hq : reachB T.S a a = true
  · rw [if_pos hq, if_pos rfl]
    obtain ⟨w1, hb, rfl⟩ := h2 hq
    have hq' := reach_iff.1 hq
    have g1 := hsn.l1
    have g4 := hsn.hn
    obtain ⟨n, hn⟩ : ∃ n : Nat, a = n := ⟨a.toNat, by omega⟩
    subst hn
    exact PB.then (T1 := T) (B1 := B) hb (PB.cell (j := 0) (S2 := { T.S with pt := n }) (h.up hb) (by omega) rfl ⟨rfl, rfl, rfl, rfl, rfl, rfl⟩ ⟨g1, by show T.S.lo ≤ n; omega, by show n ≤ T.S.hi; omega, g4, hsn.ma⟩ (by obtain ⟨_, _, _, _, _, _, _, _, hd⟩ := h; exact hd.tick) h.logs)
  · rw [if_neg hq, if_neg (by omega)]
    exact h.stay (h1 (by simpa using hq)) 0
end
end Go.Proofs.YtnbccoelbfgmgaaGreatDoor
/- gap.New, buffer.New: a new plain buffer's whole memory. -/
namespace Go.Proofs.YtnbccoelbfgmgaaGreatDoor
open Go.RowKit Go.Lib
set_option linter.unusedVariables false
set_option linter.unusedSimpArgs false
section
variable {w w' : World} {t g b l : Nat}
theorem gapX0 (h : Blk w t 164 (txtC g 0 0 0 0 (.slice none 0 0))) (hg : Blk w g 21 (rowR [])) (hn : t ≠ g) : GapX w t g (.slice none 0 0) [] 0 0 [] :=
  ⟨⟨[], h, hg, hn, by simp, by simp, by simp⟩, ROwn.nil _ _, fun k hk => (by simp [Value.ownBlock] at hk), rfl, fun c hc => (by cases hc), by simp⟩
theorem logX0 (h : Blk w l 173 (lgC (.slice none 0 0) (.slice none 0 0) 0 0)) : LogX w l (.slice none 0 0) (.slice none 0 0) [] [] [] (-1) 0 0 :=
  ⟨h, ROwn.nil _ _, rfl, fun i x g h1 h2 => (by simp at h1), ROwn.nil _ _, fun _ => rfl, fun k hk => (by simp [Value.ownBlock] at hk), fun k hk => (by simp [Value.ownBlock] at hk), fun x hx => (by cases hx)⟩
set_option maxRecDepth 100000 in
set_option maxHeartbeats 2000000 in
theorem gapNewX {N : Nat} (hT : Tabs N w) (hN : N ≤ w.heap.size) : Calls Tryz.prog 72 #[.string ⟨#[]⟩] w fun e w' => ∃ g t, e = .returned (.tuple #[pAt t, .int .i64 0]) ∧ Below w.heap.size w w' ∧ w.heap.size ≤ g ∧ g < t ∧ GapX w' t g (.slice none 0 0) [] 0 0 [] := by
  have hV := valid_any ⟨#[]⟩ w (by decide) hT
  rw [vldE] at hV
  have HV := Lib.hid hV
  have HT := Lib.hid hT
  clear hT hV
  go_enter Tryz.func72, Tryz.ntmps72
  go_wp2_with fail
  refine HV.out.mono ?_
  rintro e w1 ⟨rfl, hb1⟩
  have hw1 := hb1.size
  have hsz : (w1.alloc (.cells #[] 21)).heap.size = w1.heap.size + 1 := by simp
  have hk : Blk ((w1.alloc (.cells #[] 21)).alloc (.cells #[.slice (some ⟨w1.heap.size, 0, none⟩) 0 0, .int .i64 0, .int .i64 0, .slice none 0 0] 164)) (w1.heap.size + 1) 164 (txtC w1.heap.size 0 0 0 0 (.slice none 0 0)) := by
    have := Blk.made (w1.alloc (.cells #[] 21)) 164 (txtC w1.heap.size 0 0 0 0 (.slice none 0 0))
    rwa [hsz] at this
  have hb2 : Below w.heap.size w ((w1.alloc (.cells #[] 21)).alloc (.cells #[.slice (some ⟨w1.heap.size, 0, none⟩) 0 0, .int .i64 0, .int .i64 0, .slice none 0 0] 164)) := up2 hb1 (below2 w1 _ _)
  have hkg : Blk (w1.alloc (.cells #[] 21)) w1.heap.size 21 (rowR []) := by
    have := Blk.made w1 21 (rowR [])
    simpa [rowR] using this
  have hkg2 := Blk.up hkg (below1 _ (.cells #[.slice (some ⟨w1.heap.size, 0, none⟩) 0 0, .int .i64 0, .int .i64 0, .slice none 0 0] 164))
  have HKG := Lib.hid hkg2
  clear hkg hkg2
  have HK := Lib.hid hk
  have HB := Lib.hid hb2
  clear hk hb1 hb2 HV
  go_wp2_with fail
  refine (ginsertE (HT.out.up HB.out) HK.out (by omega)).mono ?_
  rintro e w3 ⟨rfl, ho3, hk3⟩
  go_wp2_with fail
  go_ret2
  exact ⟨_, _, rfl, (HB.out).trans (ho3.below HB.out.size (fun k hk => by omega)), hw1, Nat.lt_succ_self _, gapX0 hk3 (HKG.out.only ho3 (by omega)) (by omega)⟩
set_option maxRecDepth 100000 in
set_option maxHeartbeats 2000000 in
theorem bufNewX {N : Nat} (hT : Tabs N w) (hN : N ≤ w.heap.size) (pr ev lock : Int) : Calls Tryz.prog 33 #[.int .i64 pr, .int .i64 ev, .int .i64 lock] w fun e w' =>
    ∃ b t l m p o, e = .returned (pAt b) ∧ Below w.heap.size w w' ∧ PB N w' b (fun k => w.heap.size ≤ k ∧ k < w'.heap.size) ⟨freshS t m p o l lock, [], [], [], -1⟩ 0 := by
  have HT := Lib.hid hT
  clear hT
  go_enter Tryz.func33, Tryz.ntmps33
  go_wp2_with fail
  refine (gapNewX HT.out hN).mono ?_
  rintro e w1 ⟨g, t, rfl, hb1, hg1, hg2, ht1⟩
  have htl := ht1.gw.ltT
  have T1 := Lib.hid ht1
  have B1 := Lib.hid hb1
  clear hb1 ht1
  go_wp2_with fail
  refine (undo_new w1).mono ?_
  rintro e w2 ⟨rfl, hb2, hs2, hl2⟩
  replace hs2 := Nat.le_of_eq hs2.symm
  have T2 := Lib.hid (T1.out.up hb2)
  have B2 := Lib.hid (up2 B1.out hb2)
  have L2 := Lib.hid hl2
  clear hb2 hl2 T1 B1
  generalize w1.heap.size = l at *
  go_wp2_with fail
  refine (marks_new w2).mono ?_
  rintro e w3 ⟨rfl, hb3, hs3, hm3, hmm3⟩
  replace hs3 := Nat.le_of_eq hs3.symm
  have T3 := Lib.hid (T2.out.up hb3)
  have B3 := Lib.hid (up2 B2.out hb3)
  have L3 := Lib.hid (L2.out.up hb3)
  have M3 := Lib.hid (Mk0.made hm3 hmm3)
  clear hb3 hm3 hmm3 T2 B2 L2
  generalize w2.heap.size = mm at *
  go_wp2_with fail
  refine (props_new w3).mono ?_
  rintro e w4 ⟨rfl, hb4, hs4, hp4⟩
  replace hs4 := Nat.le_of_eq hs4.symm
  have T4 := Lib.hid (T3.out.up hb4)
  have B4 := Lib.hid (up2 B3.out hb4)
  have L4 := Lib.hid (L3.out.up hb4)
  have M4 := Lib.hid (M3.out.up hb4)
  have P4 := Lib.hid hp4
  clear hb4 hp4 T3 B3 L3 M3
  generalize w3.heap.size = p at *
  go_wp2_with fail
  refine (overs_new w4 pr ev).mono ?_
  rintro e w5 ⟨rfl, hb5, hs5, ho5⟩
  replace hs5 := Nat.le_of_eq hs5.symm
  have T5 := Lib.hid (T4.out.up hb5)
  have B5 := Lib.hid (up2 B4.out hb5)
  have L5 := Lib.hid (L4.out.up hb5)
  have M5 := Lib.hid (M4.out.up hb5)
  have P5 := Lib.hid (P4.out.up hb5)
  have O5 := Lib.hid ho5
  clear hb5 ho5 T4 B4 L4 M4 P4
  generalize w4.heap.size = o at *
  go_wp2_with fail
  go_ret
  have hb6 := below1 w5 (.cells (bufC (freshS t (mm + 1) p o l lock)) 103)
  have hk6 := Blk.made w5 103 (bufC (freshS t (mm + 1) p o l lock))
  have O6 := O5.out.up hb6
  have P6 := P5.out.up hb6
  have M6 := M5.out.up hb6
  have T6 := T5.out.up hb6
  have L6 : LogX _ l _ _ [] [] [] (-1) 0 0 := (logX0 (L5.out.up hb6))
  have hz : (w5.alloc (.cells (bufC (freshS t (mm + 1) p o l lock)) 103)).heap.size = w5.heap.size + 1 := by simp
  have hbz := up2 B5.out hb6
  refine ⟨w5.heap.size, t, l, mm + 1, p, o, rfl, hbz, ?_⟩
  have hlt : ∀ k, k ≤ w5.heap.size → k < (w5.alloc (.cells (bufC (freshS t (mm + 1) p o l lock)) 103)).heap.size := fun k hk => by rw [hz]; omega
  clear hz
  refine ⟨(fun k => k = t ∨ k = g), (fun k => k = l), mm, pr, ev, 0, 0, ⟨hk6, ⟨g, _, _, _, _, T6, ?_⟩, ⟨_, _, _, L6, ?_⟩, M6, P6, O6, rfl, ?_, ?_, ?_, ?_, ?_, ?_⟩, ⟨⟨?_, ?_, ?_, ?_, ?_⟩, ⟨by simp, by simp, by simp, by simp, by simp⟩, ?_, by simp, by simp, by simp, by simp, by simp, by simp, fun _ => rfl, by simp, rfl⟩⟩
  · intro k hk
    rcases hk with e | e | e
    · exact .inl e
    · exact .inr e
    · simp [Value.ownBlock] at e
  · intro k hk
    rcases hk with e | e | e | ⟨x, hx, _⟩
    · exact e
    · simp [Value.ownBlock] at e
    · simp [Value.ownBlock] at e
    · cases hx
  · intro k hk e; have e : k = l := e; rcases hk with h | h <;> omega
  · dsimp only; refine ⟨?_, ?_, ?_, ?_, ?_⟩ <;> (intro e; omega)
  · dsimp only; refine ⟨?_, ?_, ?_, ?_, ?_⟩ <;> (intro e; omega)
  · dsimp only; refine ⟨?_, ?_, ?_, ?_, ?_, ?_, ?_, ?_, ?_⟩ <;> omega
  · intro k hk; exact hlt k (by rcases hk with e | e <;> omega)
  · intro k hk; exact hlt k (by have e : k = l := hk; omega)
  · omega
  · intro k hk; rcases hk with e | e <;> omega
  · intro k hk; have e : k = l := hk; omega
  · show N ≤ p; omega
  · show N ≤ o; omega
  · intro k hk
    rcases hk with e | (e | e) | e | e | e | e | e
    · exact ⟨by omega, hlt k (by omega)⟩
    · exact ⟨by omega, hlt k (by omega)⟩
    · exact ⟨by omega, hlt k (by omega)⟩
    · have e : k = l := e; exact ⟨by omega, hlt k (by omega)⟩
    · have e : k = mm + 1 := e; exact ⟨by omega, hlt k (by omega)⟩
    · exact ⟨by omega, hlt k (by omega)⟩
    · have e : k = p := e; exact ⟨by omega, hlt k (by omega)⟩
    · have e : k = o := e; exact ⟨by omega, hlt k (by omega)⟩
end
end Go.Proofs.YtnbccoelbfgmgaaGreatDoor
