import Derived.Test.YtphdkcdkhklicaaGreatDoorZ14
import Derived.Test.YtphdkcdkhklicaaGreatDoorZ10
import Derived.Test.YtphdkcdkhklicaaGreatDoorZ12
import Derived.Test.YtphdkcdkhklicaaGreatDoorZ08
import Derived.Test.YtphdkcdkhklicaaGreatDoorZ13
/- package buffer: a plain buffer's state in plain Lean; put, take over it. -/
namespace Go.Proofs.YtphdkcdkhklicaaGreatDoor
open Go.RowKit Go.Lib
set_option linter.unusedVariables false
set_option linter.unusedSimpArgs false
/-- The state of a plain buffer. -/
structure Tx where
  S : BS
  cs : List Nat
  G : List (List Chg)
  O : List Chg
  ch : Int
/-- Behind an insertion of the characters s at a. -/
def putT (T : Tx) (a : Nat) (s : List Nat) (bf : Bool) : Tx := if s.length = 0 then T else { T with S := putS T.S a s.length bf, cs := insC T.cs a s, O := noteO T.S T.O (insChg a s.length) }
/-- Behind a deletion of x .. y. -/
def takeT (T : Tx) (x y : Nat) : Tx := if x = y then T else { T with S := takeS T.S x y, cs := delC T.cs x y, O := noteO T.S T.O (delChg x (encS (subL T.cs x y))) }
/-- What is known besides of a plain buffer: its blocks lie in F; at most B was noted. -/
structure PBd (N b : Nat) (Fg Fl F : Nat → Prop) (mm : Nat) (T : Tx) (co nw : Int) (B : Nat) : Prop where
  abv : Abv N b Fg Fl T.S
  sane : Sane T.S T.cs.length
  foot : ∀ k, plFoot b Fg Fl mm T.S k → F k
  o : T.O.length ≤ B
  n0 : 0 ≤ nw
  n1 : nw ≤ B
  c0 : 0 ≤ co
  c1 : co ≤ B
  g : T.G.length ≤ B
  nz : T.O = [] → nw = 0
  tick : T.S.tick ≤ B
  logs : T.S.logs = true
def PB (N : Nat) (w : World) (b : Nat) (F : Nat → Prop) (T : Tx) (B : Nat) : Prop :=
  ∃ Fg Fl mm pr ev co nw, PlainX w b Fg Fl mm pr ev T.S T.cs ⟨T.G, T.O, T.ch, co, nw⟩ ∧ PBd N b Fg Fl F mm T co nw B
theorem PBd.mono {N b : Nat} {Fg Fl F F' : Nat → Prop} {mm : Nat} {T : Tx} {co nw : Int} {B B' : Nat} (h : PBd N b Fg Fl F mm T co nw B) (hF : ∀ k, F k → F' k) (hB : B ≤ B') : PBd N b Fg Fl F' mm T co nw B' :=
  ⟨h.abv, h.sane, fun k hk => hF k (h.foot k hk), by have := h.o; omega, h.n0, by have := h.n1; omega, h.c0, by have := h.c1; omega, by have := h.g; omega, h.nz, by have := h.tick; omega, h.logs⟩
theorem noteO_ne (S : BS) (O : List Chg) (c : Chg) : noteO S O c ≠ [] := by
  have : ∀ (O : List Chg) (c : Chg), logAdd O c ≠ [] := fun O c => by unfold logAdd; split <;> simp
  unfold noteO; split <;> exact this _ _
theorem noteO_len (S : BS) (O : List Chg) (c : Chg) : (noteO S O c).length ≤ O.length + 3 := by
  unfold noteO
  split
  · have h1 := logAdd_len (logAdd (if S.tick = S.clean then logAdd O cleanC else O) (pointC S.pt)) c
    have h2 := logAdd_len (if S.tick = S.clean then logAdd O cleanC else O) (pointC S.pt)
    have h3 : (if S.tick = S.clean then logAdd O cleanC else O).length ≤ O.length + 1 := by
      split
      · exact logAdd_len _ _
      · omega
    omega
  · have := logAdd_len O c; omega
theorem insN_mono {a n x y : Nat} {p q : Bool} (h : x ≤ y) (hpq : p = false ∨ q = true ∨ p = q) : insN a n x p ≤ insN a n y q := by
  unfold insN
  have : (p = true → q = true) := by rcases hpq with rfl | rfl | rfl <;> simp
  split <;> split
  · omega
  · rename_i h1 h2
    rcases h1 with h1 | ⟨h1, h3⟩
    · exact absurd (.inl (by omega)) h2
    · exact absurd (by rcases Nat.lt_or_ge a y with h | h; exact .inl h; exact .inr ⟨by omega, this h3⟩) h2
  · omega
  · omega
theorem insN_le {a n x : Nat} {p : Bool} : x ≤ insN a n x p ∧ insN a n x p ≤ x + n := by unfold insN; split <;> omega
theorem Sane.put {S : BS} {len : Nat} (h : Sane S len) (a n : Nat) (bf : Bool) : Sane (putS S a n bf) (len + n) := by
  have h1 := h.l1; have h2 := h.lp; have h3 := h.ph; have h4 := h.hn; have h5 := h.ma
  refine ⟨?_, ?_, ?_, ?_, ?_⟩
  · exact Nat.le_trans h1 (insN_le (a := a) (n := n)).1
  · exact insN_mono h2 (.inl rfl)
  · exact insN_mono h3 (.inr (.inl rfl))
  · have := (insN_le (a := a) (n := n) (x := S.hi) (p := true)).2; show insN a n S.hi true ≤ _; omega
  · have := (insN_le (a := a) (n := n) (x := S.mark) (p := bf)).2; show insN a n S.mark bf ≤ _; omega
theorem delN_mono {a b x y : Nat} (hab : a ≤ b) (h : x ≤ y) : delN a b x ≤ delN a b y := by unfold delN; (repeat' split) <;> omega
theorem delN_one {a b x : Nat} (hab : a ≤ b) (h1 : 1 ≤ a) (h : 1 ≤ x) : 1 ≤ delN a b x := by unfold delN; (repeat' split) <;> omega
theorem delN_top {a b x n : Nat} (hab : a ≤ b) (hb : b ≤ n + 1) (h : x ≤ n + 1) : delN a b x ≤ n - (b - a) + 1 := by unfold delN; (repeat' split) <;> omega
theorem Sane.take {S : BS} {len : Nat} (h : Sane S len) {x y : Nat} (h1 : 1 ≤ x) (hxy : x ≤ y) (hy : y ≤ len + 1) : Sane (takeS S x y) (len - (y - x)) := by
  refine ⟨?_, ?_, ?_, ?_, ?_⟩
  · exact delN_one hxy h1 h.l1
  · exact delN_mono hxy h.lp
  · exact delN_mono hxy h.ph
  · exact delN_top hxy hy h.hn
  · exact delN_top hxy hy h.ma
theorem insC_len {cs s : List Nat} {a : Nat} : (insC cs a s).length = cs.length + s.length := by unfold insC; simp; omega
theorem delC_len {cs : List Nat} {x y : Nat} (h1 : 1 ≤ x) (hxy : x ≤ y) (hy : y ≤ cs.length + 1) : (delC cs x y).length = cs.length - (y - x) := by unfold delC; simp; omega
section
variable {N : Nat} {w w' : World} {b mm : Nat} {F F' Fg Fl : Nat → Prop} {pr ev : Int} {T T' : Tx} {co nw co' nw' : Int} {B B' : Nat}
theorem PB.mono (h : PB N w b F T B) (hF : ∀ k, F k → F' k) (hB : B ≤ B') : PB N w b F' T B' := by
  obtain ⟨Fg, Fl, mm, pr, ev, co, nw, hx, hd⟩ := h; exact ⟨Fg, Fl, mm, pr, ev, co, nw, hx, hd.mono hF hB⟩
theorem PB.up (h : PB N w b F T B) (hb : Below w.heap.size w w') : PB N w' b F T B := by
  obtain ⟨Fg, Fl, mm, pr, ev, co, nw, hx, hd⟩ := h; exact ⟨Fg, Fl, mm, pr, ev, co, nw, hx.up hb, hd⟩
theorem PB.only {Z : Nat → Prop} (h : PB N w b F T B) (ho : Only Z w w') (hd : ∀ k, F k → ¬ Z k) : PB N w' b F T B := by
  obtain ⟨Fg, Fl, mm, pr, ev, co, nw, hx, hq⟩ := h; exact ⟨Fg, Fl, mm, pr, ev, co, nw, hx.only ho (fun k hk => hd k (hq.foot k hk)), hq⟩
theorem PB.bound (h : PB N w b F T B) : PB N w b (fun k => F k ∧ k < w.heap.size) T B := by
  obtain ⟨Fg, Fl, mm, pr, ev, co, nw, hx, hd⟩ := h
  exact ⟨Fg, Fl, mm, pr, ev, co, nw, hx, hd.abv, hd.sane, fun k hk => ⟨hd.foot k hk, hx.foot_lt hk⟩, hd.o, hd.n0, hd.n1, hd.c0, hd.c1, hd.g, hd.nz, hd.tick, hd.logs⟩
theorem PB.sane (h : PB N w b F T B) : Sane T.S T.cs.length := by obtain ⟨Fg, Fl, mm, pr, ev, co, nw, hx, hd⟩ := h; exact hd.sane
theorem PB.r (h : PB N w b F T B) : BufR w b T.cs T.S.pt T.S.lo T.S.hi := by obtain ⟨Fg, Fl, mm, pr, ev, co, nw, hx, hd⟩ := h; exact hx.r hd.sane
theorem PB.blk (h : PB N w b F T B) : BufB w b T.S := by obtain ⟨Fg, Fl, mm, pr, ev, co, nw, hx, hd⟩ := h; exact hx.blk
theorem PB.le (h : PB N w b F T B) : T.cs.length ≤ 65536 := by obtain ⟨Fg, Fl, mm, pr, ev, co, nw, hx, hd⟩ := h; exact hx.gap.le
theorem PB.cn (h : PB N w b F T B) : ∀ c ∈ T.cs, isN c := by obtain ⟨Fg, Fl, mm, pr, ev, co, nw, hx, hd⟩ := h; exact hx.gap.cn
theorem PB.logs (h : PB N w b F T B) : T.S.logs = true := by obtain ⟨Fg, Fl, mm, pr, ev, co, nw, hx, hd⟩ := h; exact hd.logs
theorem PB.getAt (h : PB N w b F T B) : GetAt w T.S.p (fun _ _ => none) := by obtain ⟨Fg, Fl, mm, pr, ev, co, nw, hx, hd⟩ := h; exact hx.getAt
theorem PB.prs (h : PB N w b F T B) : Blk w T.S.p 167 prC := by obtain ⟨Fg, Fl, mm, pr, ev, co, nw, hx, hd⟩ := h; exact hx.prs
theorem PB.size (h : PB N w b F T B) : ∀ w1, Below w.heap.size w w1 → Calls Tryz.prog 37 #[pAt T.S.t] w1 fun r w2 => r = .returned (.int .i64 T.cs.length) ∧ Below w1.heap.size w1 w2 := by
  obtain ⟨Fg, Fl, mm, pr, ev, co, nw, hx, hd⟩ := h; exact hx.size
theorem PB.inF (h : PB N w b F T B) : F b ∧ N ≤ b ∧ b < w.heap.size := by
  obtain ⟨Fg, Fl, mm, pr, ev, co, nw, hx, hd⟩ := h; exact ⟨hd.foot b (.inl rfl), hd.abv.b, hx.blk.lt⟩
theorem PBd.ed (h : PBd N b Fg Fl F mm T co nw B) : ∀ k, edFoot b Fg Fl T.S k → F k := fun k hk => h.foot k (by
  rcases hk with hk | hk | hk | hk | hk
  · exact .inl hk
  · exact .inr (.inl hk)
  · exact .inr (.inr (.inl hk))
  · exact .inr (.inr (.inr (.inr (.inr (.inl hk)))))
  · exact .inr (.inr (.inr (.inr (.inr (.inr hk))))))
/-- What comes of one edit. -/
theorem PB.step (hd : PBd N b Fg Fl F mm T co nw B) (hN : N ≤ w.heap.size) (hto : PlainTo w b Fg Fl mm pr ev T.S T'.S T'.cs ⟨T'.G, T'.O, T'.ch, co', nw'⟩ w')
    (hS : T'.S.m = T.S.m ∧ T'.S.p = T.S.p ∧ T'.S.o = T.S.o) (hs : Sane T'.S T'.cs.length) (ho : T'.O.length ≤ B') (n0 : 0 ≤ nw') (n1 : nw' ≤ B') (c0 : 0 ≤ co') (c1 : co' ≤ B') (hg : T'.G.length ≤ B') (nz : T'.O = [] → nw' = 0) (ht : T'.S.tick ≤ B') (hl : T'.S.logs = true) :
    Only F w w' ∧ PB N w' b (grow F w.heap.size) T' B' := by
  obtain ⟨hon, Fg', Fl', hx, h1, h2⟩ := hto
  refine ⟨hon.mono hd.ed, Fg', Fl', mm, pr, ev, co', nw', hx, hd.abv.to hN h1 h2 hS.2.1 hS.2.2, hs, fun k hk => ?_, ho, n0, n1, c0, c1, hg, nz, ht, hl⟩
  rcases hk with hk | hk | hk | hk | hk | hk | hk
  · exact .inl (hd.foot k (.inl hk))
  · exact (h1 k hk).elim (fun e => .inl (hd.foot k (.inr (.inl e)))) .inr
  · exact (h2 k hk).elim (fun e => .inl (hd.foot k (.inr (.inr (.inl e))))) .inr
  · rw [hS.1] at hk; exact .inl (hd.foot k (.inr (.inr (.inr (.inl hk)))))
  · exact .inl (hd.foot k (.inr (.inr (.inr (.inr (.inl hk))))))
  · rw [hS.2.1] at hk; exact .inl (hd.foot k (.inr (.inr (.inr (.inr (.inr (.inl hk)))))))
  · rw [hS.2.2] at hk; exact .inl (hd.foot k (.inr (.inr (.inr (.inr (.inr (.inr hk)))))))
theorem PB.nN (h : PB N w b F T B) : N ≤ w.heap.size := by have := h.inF; omega
/-- put over the state. -/
theorem pput (hT : Tabs N w) (hR : Rules N w) (h : PB N w b F T B) (hB : B ≤ 900000)
    (a : Nat) (ha1 : 1 ≤ a) (ha2 : a ≤ T.cs.length + 1) (s : ByteArray) (hs : s.size ≤ 262144) (hv : (charsD s.data.toList).isSome = true) (hfit : T.cs.length + (chrs s).length ≤ 65536) (bf : Bool) :
    Calls Tryz.prog 108 #[pAt b, .int .i64 a, .string s, .bool bf] w fun r w' => r = .returned (.tuple #[]) ∧ Only F w w' ∧ PB N w' b (grow F w.heap.size) (putT T a (chrs s) bf) (B + 4) := by
  have hN := h.nN
  obtain ⟨Fg, Fl, mm, pr, ev, co, nw, hx, hd⟩ := h
  have h1 := hd.o; have h2 := hd.n1; have h3 := hd.c1; have h4 := hd.tick; have h5 := hd.g; have h6 := hd.n0; have h7 := hd.c0
  refine (gput0 hT hR hx hd.logs hd.abv.b hd.abv.g hd.abv.l hd.sane (by omega) ⟨by dsimp only; omega, hd.n0, by dsimp only; omega, hd.c0, by dsimp only; omega⟩ a ha1 ha2 s hs hv hfit bf).mono ?_
  rintro r w' ⟨rfl, L', hL', hp⟩
  refine ⟨rfl, ?_⟩
  unfold PutL at hL'
  unfold putS0 at hp
  unfold putT
  by_cases h0 : (chrs s).length = 0
  · rw [if_pos h0] at hL' hp ⊢
    subst hL'
    have he : chrs s = [] := List.eq_nil_of_length_eq_zero h0
    have hi : insC T.cs a (chrs s) = T.cs := by unfold insC; rw [he]; simp
    rw [hi] at hp
    exact PB.step hd hN hp ⟨rfl, rfl, rfl⟩ hd.sane (by (try dsimp only); omega) hd.n0 (by (try dsimp only); omega) hd.c0 (by (try dsimp only); omega) (by (try dsimp only); omega) hd.nz (by (try dsimp only); omega) hd.logs
  · rw [if_neg h0] at hL' hp ⊢
    obtain ⟨q, hq, rfl⟩ := hL'
    have hno := noteO_len T.S T.O (insChg a (chrs s).length)
    exact PB.step (T' := { T with S := putS T.S a (chrs s).length bf, cs := insC T.cs a (chrs s), O := noteO T.S T.O (insChg a (chrs s).length) }) hd hN hp ⟨rfl, rfl, rfl⟩ (by rw [insC_len]; exact hd.sane.put _ _ _) (by dsimp only; omega) (by (try dsimp only); omega) (by (try dsimp only); omega) (by (try dsimp only); omega) (by (try dsimp only); omega) (by dsimp only; omega) (fun e => absurd e (noteO_ne _ _ _)) (by show T.S.tick + 1 ≤ _; omega) hd.logs
set_option maxHeartbeats 1000000 in
theorem takeE (x : Int) (w : World) : Calls Tryz.prog 107 #[pAt b, .int .i64 x, .int .i64 x] w fun r w' => r = .returned (.tuple #[]) ∧ w = w' := by
  go_enter Tryz.func107, Tryz.ntmps107
  go_wp2_with fail
  refine bodyPost_ret (results_none rfl _ _ _) rfl ?_
  exact ⟨rfl, rfl⟩
/-- take over the state. -/
theorem ptake (hT : Tabs N w) (hR : Rules N w) (h : PB N w b F T B) (hB : B ≤ 900000) (x y : Nat) (hx1 : 1 ≤ x) (hxy : x ≤ y) (hy : y ≤ T.cs.length + 1) :
    Calls Tryz.prog 107 #[pAt b, .int .i64 x, .int .i64 y] w fun r w' => r = .returned (.tuple #[]) ∧ Only F w w' ∧ PB N w' b (grow F w.heap.size) (takeT T x y) (B + (y - x) + 4) := by
  unfold takeT
  by_cases h0 : x = y
  · subst h0
    rw [if_pos rfl]
    exact (takeE x w).mono fun r w' ⟨hr, hw⟩ => ⟨hr, hw ▸ Only.refl _ _, hw ▸ h.mono (fun k hk => .inl hk) (by omega)⟩
  · rw [if_neg h0]
    have hN := h.nN
    have hle := h.le
    obtain ⟨Fg, Fl, mm, pr, ev, co, nw, hx, hd⟩ := h
    have h1 := hd.o; have h2 := hd.n1; have h3 := hd.c1; have h4 := hd.tick; have h5 := hd.g; have h6 := hd.n0; have h7 := hd.c0
    have hsn := hd.sane
    have g1 := hsn.l1; have g2 := hsn.lp; have g3 := hsn.ph; have g4 := hsn.hn; have g5 := hsn.ma
    refine (gtake hT hR hx hd.logs hd.abv.b hd.abv.g hd.abv.l ⟨by omega, by omega⟩ (by omega) (by omega) (by omega) (by omega) x y hx1 (by omega) hy ⟨by dsimp only; omega, hd.n0, by dsimp only; omega, hd.c0, by dsimp only; omega⟩).mono ?_
    rintro r w' ⟨rfl, q, hq, hp⟩
    have hno := noteO_len T.S T.O (delChg x (encS (subL T.cs x y)))
    exact ⟨rfl, PB.step (T' := { T with S := takeS T.S x y, cs := delC T.cs x y, O := noteO T.S T.O (delChg x (encS (subL T.cs x y))) }) hd hN hp ⟨rfl, rfl, rfl⟩ (by rw [delC_len hx1 hxy hy]; exact hsn.take hx1 hxy hy) (by dsimp only; omega) (by (try dsimp only); omega) (by (try dsimp only); omega) (by (try dsimp only); omega) (by (try dsimp only); omega) (by dsimp only; omega) (fun e => absurd e (noteO_ne _ _ _)) (by show T.S.tick + 1 ≤ _; omega) hd.logs⟩
/-- One cell of the buffer turned. -/
theorem PB.cell {j : Nat} {v : Value} {S2 : BS} (h : PB N w b F T B) (hj : j < 19) (he : (bufC T.S).set j v (by simpa using hj) = bufC S2) (h2 : S2.t = T.S.t ∧ S2.m = T.S.m ∧ S2.p = T.S.p ∧ S2.o = T.S.o ∧ S2.l = T.S.l ∧ S2.saved = T.S.saved)
    (hs : Sane S2 T.cs.length) (ht : S2.tick ≤ B) (hl : S2.logs = true) : Only F w (w.setCell ⟨b, j, none⟩ v) ∧ PB N (w.setCell ⟨b, j, none⟩ v) b (grow F w.heap.size) { T with S := S2 } B := by
  have hN := h.nN
  obtain ⟨Fg, Fl, mm, pr, ev, co, nw, hx, hd⟩ := h
  exact PB.step (T' := { T with S := S2 }) hd hN ((PlainTo.refl hx).cell hj he h2) ⟨h2.2.1, h2.2.2.1, h2.2.2.2.1⟩ hs hd.o hd.n0 hd.n1 hd.c0 hd.c1 hd.g hd.nz ht hl
end
end Go.Proofs.YtphdkcdkhklicaaGreatDoor
/- package buffer: Insert, InsertAhead, Put, Delete, Replace, Goto at a plain buffer. -/
namespace Go.Proofs.YtphdkcdkhklicaaGreatDoor
open Go.RowKit Go.Lib
set_option linter.unusedVariables false
set_option linter.unusedSimpArgs false
theorem reach_iff {S : BS} {x y : Int} : reachB S x y = true ↔ (S.lo : Int) ≤ x ∧ x ≤ y ∧ y ≤ (S.hi : Int) := by unfold reachB; simp [and_assoc]
theorem reach_of0 {S : BS} {x y : Int} (h : (if reachB S x y = true then (0 : Int) else 3) = 0) : (S.lo : Int) ≤ x ∧ x ≤ y ∧ y ≤ (S.hi : Int) := by
  split at h
  · rename_i h1; exact reach_iff.1 h1
  · omega
theorem fits0 {s : ByteArray} {n : Nat} {less : Int} (h : fitsE s n less = 0) : (charsD s.data.toList).isSome = true ∧ (n : Int) - less + ((chrs s).length : Int) ≤ 65536 := by
  unfold fitsE at h
  split at h
  · rename_i hv
    rw [vld_chars] at hv
    rw [rlenG_chars hv] at h
    split at h
    · omega
    · exact ⟨hv, by omega⟩
  · omega
theorem firstE3 (a b c : Chk) : firstE [a, b, c] = if a.e = 0 then (if b.e = 0 then c.e else b.e) else a.e := by
  simp only [firstE]; repeat' split
  all_goals first | rfl | (rename_i h; exact h.symm) | omega
theorem firstE2 (a b : Chk) : firstE [a, b] = if a.e = 0 then b.e else a.e := by
  simp only [firstE]; repeat' split
  all_goals first | rfl | (rename_i h; exact h.symm) | omega
/-- What Put, Delete, Replace answer at a plain buffer that is not read-only. -/
def putEr (T : Tx) (a : Int) (s : ByteArray) : Int := if reachB T.S a a = true then fitsE s T.cs.length 0 else 3
def delE (T : Tx) (x y : Int) : Int := if reachB T.S x y = true then 0 else 3
def repE (T : Tx) (x y : Int) (s : ByteArray) : Int := if reachB T.S x y = true then fitsE s T.cs.length (y - x) else 3
/-- Behind insert. -/
def insT (T : Tx) (s : List Nat) (bf : Bool) : Tx := { putT T T.S.pt s bf with S := { (putT T T.S.pt s bf).S with pt := T.S.pt + s.length } }
section
variable {N : Nat} {w w' : World} {b mm : Nat} {F F' Fg Fl : Nat → Prop} {pr ev : Int} {T T' : Tx} {co nw co' nw' : Int} {B B' : Nat}
theorem PB.stay (h : PB N w b F T B) (hb : Below w.heap.size w w') (d : Nat) : Only F w w' ∧ PB N w' b (grow F w.heap.size) T (B + d) := ⟨Only.of_below hb, (h.up hb).mono (fun k hk => .inl hk) (by omega)⟩
theorem PB.then {w1 w2 : World} {T1 T2 : Tx} {B1 B2 : Nat} (hb : Below w.heap.size w w1) (h : Only F w1 w2 ∧ PB N w2 b (grow F w1.heap.size) T2 B2) : Only F w w2 ∧ PB N w2 b (grow F w.heap.size) T2 B2 :=
  ⟨(Only.of_below hb).trans h.1, h.2.mono (grow_mono (fun k h => h) hb.size) (Nat.le_refl _)⟩
theorem PB.next {w1 w2 : World} {T2 : Tx} {B2 : Nat} (h1 : Only F w w1) (h : Only (grow F w.heap.size) w1 w2 ∧ PB N w2 b (grow (grow F w.heap.size) w1.heap.size) T2 B2) : Only F w w2 ∧ PB N w2 b (grow F w.heap.size) T2 B2 :=
  ⟨Only.grow h1 h.1, h.2.mono (grow_two h1.size) (Nat.le_refl _)⟩
theorem PB.post {w1 w2 : World} {F0 : Nat → Prop} {T2 : Tx} {B2 : Nat} (h : Only F0 w w1 ∧ PB N w1 b F T2 B2) (hb : Below w1.heap.size w1 w2) : Only F0 w w2 ∧ PB N w2 b F T2 B2 := ⟨h.1.trans (Only.of_below hb), h.2.up hb⟩
theorem Abv0 (h : PB N w b F T B) (hF : ∀ k, F k → N ≤ k) : True := trivial
/-- A buffer's blocks that may turn lie from N on: tables below N stay. -/
def edF (N : Nat) (F : Nat → Prop) : Prop := ∀ k, F k → N ≤ k
theorem edF.grow {n : Nat} (h : edF N F) (hn : N ≤ n) : edF N (grow F n) := fun k hk => hk.elim (h k) (fun e => by omega)
set_option maxRecDepth 100000 in
set_option maxHeartbeats 4000000 in
theorem pinsert (hT : Tabs N w) (hR : Rules N w) (h : PB N w b F T B) (hB : B ≤ 900000) (hro : T.S.ro = false) (s : ByteArray) (hs : s.size ≤ 262144) (bf : Bool) :
    Calls Tryz.prog 89 #[pAt b, .string s, .bool bf] w fun r w' => r = .returned (.int .i64 (fitsE s T.cs.length 0)) ∧ Only F w w' ∧ PB N w' b (grow F w.heap.size) (if fitsE s T.cs.length 0 = 0 then insT T (chrs s) bf else T) (B + 4) := by
  have hN := h.nN
  have hst := fun w' (hb : Below w.heap.size w w') => h.stay hb 4
  obtain ⟨Fg, Fl, mm, pr, ev, co, nw, hx, hd⟩ := h
  have h1 := hd.o; have h2 := hd.n1; have h3 := hd.c1; have h4 := hd.tick; have h5 := hd.g; have h6 := hd.n0; have h7 := hd.c0
  refine (binsert hT hR hx hd.logs hro hd.abv hd.sane (by omega) ⟨by dsimp only; omega, hd.n0, by dsimp only; omega, hd.c0, by dsimp only; omega⟩ s hs bf).mono ?_
  rintro r w' ⟨rfl, hA, hC⟩
  refine ⟨rfl, ?_⟩
  by_cases hE : fitsE s T.cs.length 0 = 0
  · rw [if_pos hE]
    obtain ⟨L', hL', hp⟩ := hC hE
    have hsn := hd.sane
    have g1 := hsn.l1; have g2 := hsn.lp; have g3 := hsn.ph; have g4 := hsn.hn; have g5 := hsn.ma
    unfold PutL at hL'
    unfold putS0 at hp
    unfold insT putT
    by_cases h0 : (chrs s).length = 0
    · rw [if_pos h0] at hL' hp ⊢
      subst hL'
      have he : chrs s = [] := List.eq_nil_of_length_eq_zero h0
      have hi : insC T.cs T.S.pt (chrs s) = T.cs := by unfold insC; rw [he]; simp
      rw [hi] at hp
      exact PB.step (T' := { T with S := { T.S with pt := T.S.pt + (chrs s).length } }) hd hN hp ⟨rfl, rfl, rfl⟩ ⟨g1, by show T.S.lo ≤ T.S.pt + (chrs s).length; omega, by show T.S.pt + (chrs s).length ≤ T.S.hi; omega, g4, g5⟩ (by dsimp only; omega) hd.n0 (by (try dsimp only); omega) hd.c0 (by (try dsimp only); omega) (by dsimp only; omega) hd.nz (by dsimp only; omega) hd.logs
    · rw [if_neg h0] at hL' hp ⊢
      obtain ⟨q, hq, rfl⟩ := hL'
      have hno := noteO_len T.S T.O (insChg T.S.pt (chrs s).length)
      have hs2 := hsn.put T.S.pt (chrs s).length bf
      have hlo : insN T.S.pt (chrs s).length T.S.lo false ≤ T.S.pt := by unfold insN; rw [if_neg (by rintro (h | h); omega; exact absurd h.2 (by simp))]; exact g2
      have hhi : insN T.S.pt (chrs s).length T.S.hi true = T.S.hi + (chrs s).length := by unfold insN; rw [if_pos (by rcases Nat.lt_or_ge T.S.pt T.S.hi with h | h; exact .inl h; exact .inr ⟨by omega, rfl⟩)]
      refine PB.step (T' := { T with S := { putS T.S T.S.pt (chrs s).length bf with pt := T.S.pt + (chrs s).length }, cs := insC T.cs T.S.pt (chrs s), O := noteO T.S T.O (insChg T.S.pt (chrs s).length) }) hd hN hp ⟨rfl, rfl, rfl⟩ ?_ (by dsimp only; omega) (by (try dsimp only); omega) (by (try dsimp only); omega) (by (try dsimp only); omega) (by (try dsimp only); omega) (by dsimp only; omega) (fun e => absurd e (noteO_ne _ _ _)) (by show T.S.tick + 1 ≤ _; omega) hd.logs
      rw [insC_len]
      refine ⟨hs2.l1, ?_, ?_, hs2.hn, hs2.ma⟩
      · show insN T.S.pt (chrs s).length T.S.lo false ≤ T.S.pt + (chrs s).length; omega
      · show T.S.pt + (chrs s).length ≤ insN T.S.pt (chrs s).length T.S.hi true; omega
  · rw [if_neg hE]
    exact hst w' (hA hE)
set_option maxHeartbeats 1000000 in
theorem bInsert (hT : Tabs N w) (hR : Rules N w) (h : PB N w b F T B) (hB : B ≤ 900000) (hro : T.S.ro = false) (s : ByteArray) (hs : s.size ≤ 262144) :
    Calls Tryz.prog 34 #[pAt b, .string s] w fun r w' => r = .returned (.int .i64 (fitsE s T.cs.length 0)) ∧ Only F w w' ∧ PB N w' b (grow F w.heap.size) (if fitsE s T.cs.length 0 = 0 then insT T (chrs s) false else T) (B + 4) := by
  have HI := Lib.hid (pinsert hT hR h hB hro s hs false)
  clear hT hR h hs hB hro
  generalize (if fitsE s T.cs.length 0 = 0 then insT T (chrs s) false else T) = T2 at *
  generalize fitsE s T.cs.length 0 = E at *
  go_enter Tryz.func34, Tryz.ntmps34
  go_wp2_with fail
  refine HI.out.mono ?_
  rintro r w' ⟨rfl, h1, h2⟩
  have H1 := Lib.hid h1
  have H2 := Lib.hid h2
  clear h1 h2
  go_wp2_with fail
  go_ret
  exact ⟨rfl, H1.out, H2.out⟩
end
end Go.Proofs.YtphdkcdkhklicaaGreatDoor
/- gap.New, buffer.New: a new plain buffer's whole memory. -/
namespace Go.Proofs.YtphdkcdkhklicaaGreatDoor
open Go.RowKit Go.Lib
set_option linter.unusedVariables false
set_option linter.unusedSimpArgs false
section
variable {w w' : World} {t g b l : Nat}
theorem gapX0 (h : Blk w t 125 (txtC g 0 0 0 0 (.slice none 0 0))) (hg : Blk w g 21 (rowR [])) (hn : t ≠ g) : GapX w t g (.slice none 0 0) [] 0 0 [] :=
  ⟨⟨h, hg, hn, by simp, by simp, by simp⟩, ROwn.nil _ _, fun k hk => (by simp [Value.ownBlock] at hk), rfl, fun c hc => (by cases hc), by simp⟩
theorem logX0 (h : Blk w l 156 (lgC (.slice none 0 0) (.slice none 0 0) 0 0)) : LogX w l (.slice none 0 0) (.slice none 0 0) [] [] [] (-1) 0 0 :=
  ⟨h, ROwn.nil _ _, rfl, fun i x g h1 h2 => (by simp at h1), ROwn.nil _ _, fun _ => rfl, fun k hk => (by simp [Value.ownBlock] at hk), fun k hk => (by simp [Value.ownBlock] at hk), fun x hx => (by cases hx)⟩
set_option maxRecDepth 100000 in
set_option maxHeartbeats 2000000 in
theorem gapNewX {N : Nat} (hT : Tabs N w) (hN : N ≤ w.heap.size) : Calls Tryz.prog 84 #[.string ⟨#[]⟩] w fun e w' => ∃ g t, e = .returned (.tuple #[pAt t, .int .i64 0]) ∧ Below w.heap.size w w' ∧ w.heap.size ≤ g ∧ g < t ∧ GapX w' t g (.slice none 0 0) [] 0 0 [] := by
  have hV := valid_any ⟨#[]⟩ w (by decide) hT
  rw [vldE] at hV
  have HV := Lib.hid hV
  have HT := Lib.hid hT
  clear hT hV
  go_enter Tryz.func84, Tryz.ntmps84
  go_wp2_with fail
  refine HV.out.mono ?_
  rintro e w1 ⟨rfl, hb1⟩
  have hw1 := hb1.size
  have hsz : (w1.alloc (.cells #[] 21)).heap.size = w1.heap.size + 1 := by simp
  have hk : Blk ((w1.alloc (.cells #[] 21)).alloc (.cells #[.slice (some ⟨w1.heap.size, 0, none⟩) 0 0, .int .i64 0, .int .i64 0, .slice none 0 0] 125)) (w1.heap.size + 1) 125 (txtC w1.heap.size 0 0 0 0 (.slice none 0 0)) := by
    have := Blk.made (w1.alloc (.cells #[] 21)) 125 (txtC w1.heap.size 0 0 0 0 (.slice none 0 0))
    rwa [hsz] at this
  have hb2 : Below w.heap.size w ((w1.alloc (.cells #[] 21)).alloc (.cells #[.slice (some ⟨w1.heap.size, 0, none⟩) 0 0, .int .i64 0, .int .i64 0, .slice none 0 0] 125)) := up2 hb1 (below2 w1 _ _)
  have hkg : Blk (w1.alloc (.cells #[] 21)) w1.heap.size 21 (rowR []) := by
    have := Blk.made w1 21 (rowR [])
    simpa [rowR] using this
  have hkg2 := Blk.up hkg (below1 _ (.cells #[.slice (some ⟨w1.heap.size, 0, none⟩) 0 0, .int .i64 0, .int .i64 0, .slice none 0 0] 125))
  have HKG := Lib.hid hkg2
  clear hkg hkg2
  have HK := Lib.hid hk
  have HB := Lib.hid hb2
  clear hk hb1 hb2 HV
  go_wp2_with fail
  refine (ginsertE (HT.out.up HB.out) HK.out (by omega)).mono ?_
  rintro e w3 ⟨rfl, ho3, hk3⟩
  go_wp2_with fail
  go_ret2
  exact ⟨_, _, rfl, (HB.out).trans (ho3.below HB.out.size (fun k hk => by omega)), hw1, Nat.lt_succ_self _, gapX0 hk3 (HKG.out.only ho3 (by omega)) (by omega)⟩
set_option maxRecDepth 100000 in
set_option maxHeartbeats 2000000 in
theorem bufNewX {N : Nat} (hT : Tabs N w) (hN : N ≤ w.heap.size) (pr ev lock : Int) : Calls Tryz.prog 33 #[.int .i64 pr, .int .i64 ev, .int .i64 lock] w fun e w' =>
    ∃ b t l m p o, e = .returned (pAt b) ∧ Below w.heap.size w w' ∧ PB N w' b (fun k => w.heap.size ≤ k ∧ k < w'.heap.size) ⟨freshS t m p o l lock, [], [], [], -1⟩ 0 := by
  have HT := Lib.hid hT
  clear hT
  go_enter Tryz.func33, Tryz.ntmps33
  go_wp2_with fail
  refine (gapNewX HT.out hN).mono ?_
  rintro e w1 ⟨g, t, rfl, hb1, hg1, hg2, ht1⟩
  have htl := ht1.gw.blk.lt
  have T1 := Lib.hid ht1
  have B1 := Lib.hid hb1
  clear hb1 ht1
  go_wp2_with fail
  refine (undo_new w1).mono ?_
  rintro e w2 ⟨rfl, hb2, hs2, hl2⟩
  replace hs2 := Nat.le_of_eq hs2.symm
  have T2 := Lib.hid (T1.out.up hb2)
  have B2 := Lib.hid (up2 B1.out hb2)
  have L2 := Lib.hid hl2
  clear hb2 hl2 T1 B1
  generalize w1.heap.size = l at *
  go_wp2_with fail
  refine (marks_new w2).mono ?_
  rintro e w3 ⟨rfl, hb3, hs3, hm3, hmm3⟩
  replace hs3 := Nat.le_of_eq hs3.symm
  have T3 := Lib.hid (T2.out.up hb3)
  have B3 := Lib.hid (up2 B2.out hb3)
  have L3 := Lib.hid (L2.out.up hb3)
  have M3 := Lib.hid (Mk0.made hm3 hmm3)
  clear hb3 hm3 hmm3 T2 B2 L2
  generalize w2.heap.size = mm at *
  go_wp2_with fail
  refine (props_new w3).mono ?_
  rintro e w4 ⟨rfl, hb4, hs4, hp4⟩
  replace hs4 := Nat.le_of_eq hs4.symm
  have T4 := Lib.hid (T3.out.up hb4)
  have B4 := Lib.hid (up2 B3.out hb4)
  have L4 := Lib.hid (L3.out.up hb4)
  have M4 := Lib.hid (M3.out.up hb4)
  have P4 := Lib.hid hp4
  clear hb4 hp4 T3 B3 L3 M3
  generalize w3.heap.size = p at *
  go_wp2_with fail
  refine (overs_new w4 pr ev).mono ?_
  rintro e w5 ⟨rfl, hb5, hs5, ho5⟩
  replace hs5 := Nat.le_of_eq hs5.symm
  have T5 := Lib.hid (T4.out.up hb5)
  have B5 := Lib.hid (up2 B4.out hb5)
  have L5 := Lib.hid (L4.out.up hb5)
  have M5 := Lib.hid (M4.out.up hb5)
  have P5 := Lib.hid (P4.out.up hb5)
  have O5 := Lib.hid ho5
  clear hb5 ho5 T4 B4 L4 M4 P4
  generalize w4.heap.size = o at *
  go_wp2_with fail
  go_ret
  have hb6 := below1 w5 (.cells (bufC (freshS t (mm + 1) p o l lock)) 73)
  have hk6 := Blk.made w5 73 (bufC (freshS t (mm + 1) p o l lock))
  have O6 := O5.out.up hb6
  have P6 := P5.out.up hb6
  have M6 := M5.out.up hb6
  have T6 := T5.out.up hb6
  have L6 : LogX _ l _ _ [] [] [] (-1) 0 0 := (logX0 (L5.out.up hb6))
  have hz : (w5.alloc (.cells (bufC (freshS t (mm + 1) p o l lock)) 73)).heap.size = w5.heap.size + 1 := by simp
  have hbz := up2 B5.out hb6
  refine ⟨w5.heap.size, t, l, mm + 1, p, o, rfl, hbz, ?_⟩
  have hlt : ∀ k, k ≤ w5.heap.size → k < (w5.alloc (.cells (bufC (freshS t (mm + 1) p o l lock)) 73)).heap.size := fun k hk => by rw [hz]; omega
  clear hz
  refine ⟨(fun k => k = t ∨ k = g), (fun k => k = l), mm, pr, ev, 0, 0, ⟨hk6, ⟨g, _, _, _, _, T6, ?_⟩, ⟨_, _, _, L6, ?_⟩, M6, P6, O6, rfl, ?_, ?_, ?_, ?_, ?_, ?_⟩, ⟨⟨?_, ?_, ?_, ?_, ?_⟩, ⟨by simp, by simp, by simp, by simp, by simp⟩, ?_, by simp, by simp, by simp, by simp, by simp, by simp, fun _ => rfl, by simp, rfl⟩⟩
  · intro k hk
    rcases hk with e | e | e
    · exact .inl e
    · exact .inr e
    · simp [Value.ownBlock] at e
  · intro k hk
    rcases hk with e | e | e | ⟨x, hx, _⟩
    · exact e
    · simp [Value.ownBlock] at e
    · simp [Value.ownBlock] at e
    · cases hx
  · intro k hk e; have e : k = l := e; rcases hk with h | h <;> omega
  · dsimp only; refine ⟨?_, ?_, ?_, ?_, ?_⟩ <;> (intro e; omega)
  · dsimp only; refine ⟨?_, ?_, ?_, ?_, ?_⟩ <;> (intro e; omega)
  · dsimp only; refine ⟨?_, ?_, ?_, ?_, ?_, ?_, ?_, ?_, ?_⟩ <;> omega
  · intro k hk; exact hlt k (by rcases hk with e | e <;> omega)
  · intro k hk; exact hlt k (by have e : k = l := hk; omega)
  · omega
  · intro k hk; rcases hk with e | e <;> omega
  · intro k hk; have e : k = l := hk; omega
  · show N ≤ p; omega
  · show N ≤ o; omega
  · intro k hk
    rcases hk with e | (e | e) | e | e | e | e | e
    · exact ⟨by omega, hlt k (by omega)⟩
    · exact ⟨by omega, hlt k (by omega)⟩
    · exact ⟨by omega, hlt k (by omega)⟩
    · have e : k = l := e; exact ⟨by omega, hlt k (by omega)⟩
    · have e : k = mm + 1 := e; exact ⟨by omega, hlt k (by omega)⟩
    · exact ⟨by omega, hlt k (by omega)⟩
    · have e : k = p := e; exact ⟨by omega, hlt k (by omega)⟩
    · have e : k = o := e; exact ⟨by omega, hlt k (by omega)⟩
end
end Go.Proofs.YtphdkcdkhklicaaGreatDoor
/- package undo: Undo at any log. -/
namespace Go.Proofs.YtphdkcdkhklicaaGreatDoor
open Go.RowKit Go.Lib
set_option linter.unusedVariables false
set_option linter.unusedSimpArgs false
/-- How many groups lie before the one undone last, as Undo lays it. -/
def chainN (again : Bool) (ch : Int) (n : Nat) : Int := if again = false ∨ ch < 0 then (n : Int) else ch
/-- What Undo answers. -/
def UndoP (w : World) (l : Nat) (F : Nat → Prop) (G' : List (List Chg)) (co : Int) (c : Int) (r : Ending) (w' : World) : Prop :=
  Only F w w' ∧ ∃ n, w.heap.size ≤ n ∧ n ≤ w'.heap.size ∧
    ((c = 0 ∧ r = .returned (.tuple #[.slice none 0 0, .int .i64 13]) ∧ LogF1 w' l (fun k => grow F w.heap.size k ∧ k < n) G' [] 0 co 0) ∨
     ∃ (m : Nat) (g : List Chg) (v : Value), c = ((m + 1 : Nat) : Int) ∧ G'[m]? = some g ∧ r = .returned (.tuple #[v, .int .i64 0]) ∧ LogF1 w' l (fun k => grow F w.heap.size k ∧ k < n) G' [] m co 0 ∧ ROwn encCg 113 9 n w' v g.reverse)
section
variable {w w' : World} {l : Nat} {F : Nat → Prop} {G : List (List Chg)} {O : List Chg} {ch co nw : Int} {gv ov : Value} {vs : List Sl3}
theorem LogX.setCh {k : Int} (h : LogX w l gv ov vs G O ch co nw) : LogX (w.setCell ⟨l, 3, none⟩ (.int .i64 k)) l gv ov vs G O k co nw := by
  have ho : Only (fun k => k = l) w (w.setCell ⟨l, 3, none⟩ (.int .i64 k)) := (Only.refl (fun k => k = l) w).setCell (p := ⟨l, 3, none⟩) rfl _
  have hk : ∀ j, j < w.heap.size → j ≠ l → (w.setCell ⟨l, 3, none⟩ (.int .i64 k)).heap[j]? = w.heap[j]? := fun j h1 h2 => ho.block j h1 h2
  refine ⟨h.blk.set (j := 3) (by simp) (.int .i64 k), h.gr.kept (fun j e => hk j (h.gr.lt e) (h.s2 j e)), h.len, fun i x g h1 h2 => ⟨(h.rows i x g h1 h2).1.kept (fun j e => hk j ((h.rows i x g h1 h2).1.lt e) (h.s3 x (List.mem_of_getElem? h1) j e).1), (h.rows i x g h1 h2).2⟩,
    h.op.kept (fun j e => hk j (h.op.lt e) (h.s1 j e).1), h.nil, h.s1, h.s2, h.s3⟩
set_option maxRecDepth 100000 in
set_option maxHeartbeats 4000000 in
theorem lundo1 (h : LogF1 w l F G O ch co nw) (hc : co ≤ 1048576) (hv : G.length ≤ 900000) (hO : O.length ≤ 900000) (hn : O = [] → nw = 0) (hGG : ∀ g ∈ logShut G O, g.length ≤ 900002) {C : Int} (hCC : C = (logShut G O).length) :
    Calls Tryz.prog 80 #[pAt l, .bool false] w (UndoP w l F (logShut G O) co C) := by
  obtain ⟨gv, ov, vs, hx, hf⟩ := h
  have HN := Lib.hid (gnoneL hx.blk)
  have hcl := lclose_any hx hc (by rw [hx.len]; omega) hn
  have hll : (logShut G O).length ≤ 900001 := by
    unfold logShut
    split
    · omega
    · simp; omega
  generalize logShut G O = G' at *
  have HC := Lib.hid hcl
  have HF := Lib.hid hf
  have HL := Lib.hid hll
  have HGG := Lib.hid hGG
  clear hx hn hv hf hll hc hGG hO hcl
  go_enter Tryz.func80, Tryz.ntmps80
  go_wp2_with fail
  refine HN.out.mono ?_
  rintro e w0 ⟨rfl, rfl⟩
  go_wp2_with fail
  refine HC.out.mono ?_
  rintro e w1 ⟨rfl, ho1, gv', ov', vs', hx1, hf1⟩
  have HX := Lib.hid hx1
  have HO1 := Lib.hid (ho1.mono HF.out)
  have HF1 : Hid (∀ k, logFoot l gv' ov' vs' k → grow F w.heap.size k ∧ k < w1.heap.size) := Lib.hid (fun k hk => ⟨(hf1 k hk).elim (fun e => .inl (HF.out k e)) .inr, hx1.foot_lt hk⟩)
  have HlF := Lib.hid (HF.out l (.inl rfl))
  have z1 := ho1.size
  clear ho1 hx1 hf1 HC HN
  obtain ⟨A1, cap1, hgv, hn1, hn2, hr1⟩ := HX.out.gr.shape eltG
  have hvl : vs'.length = G'.length := HX.out.len
  rw [hvl] at hgv hn1
  have c1 : w1.cell? ⟨l, 1, none⟩ = some (.slice A1 G'.length cap1) := by rw [← hgv]; exact HX.out.blk.cell (j := 1) rfl
  have c3 : w1.cell? ⟨l, 3, none⟩ = some (.int .i64 ch) := HX.out.blk.cell (j := 3) rfl
  have f3 := HX.out.blk.fz 3
  have HGV := Lib.hid hgv
  clear hvl hr1 hgv
  by_cases hz : C = 0
  · have hC0 := Lib.hid hz
    have hl0 : G'.length = 0 := by omega
    rw [hl0] at c1
    go_wp2_with fail
    go_ret2
    have z2 := HO1.out.size
    refine ⟨HO1.out.setCell (p := ⟨l, 3, none⟩) HlF.out _, w1.heap.size, by omega, by simp, .inl ⟨hC0.out, rfl, ⟨_, _, _, HX.out.setCh (k := 0), HF1.out⟩⟩⟩
  · obtain ⟨m, hm⟩ : ∃ m : Nat, C = ((m + 1 : Nat) : Int) := ⟨(C - 1).toNat, by omega⟩
    have hC0 := Lib.hid hm
    have hmm : m < G'.length := by omega
    have d0 : (((G'.length : Nat) : Int) == 0) = false := by rw [beq_eq_false_iff_ne]; omega
    have n0 : (G'.length = 0) = False := eq_false (by omega)
    have n1 : (G' = []) = False := eq_false (fun e => by rw [e] at hmm; simp at hmm)
    have s1 : IntKind.i64.wrap (((G'.length : Nat) : Int) - 1) = (m : Int) := by rw [IntWalk.i64_in _ (by have := HL.out; omega)]; omega
    go_wp2_with fail
    have hW : LogX ((w1.setCell ⟨l, 3, none⟩ (.int .i64 (G'.length : Int))).setCell ⟨l, 3, none⟩ (.int .i64 (m : Int))) l gv' ov' vs' G' [] m co 0 := by
      have := (HX.out.setCh (k := ((G'.length : Nat) : Int))).setCh (k := (m : Int))
      first | exact this | exact HX.out.setCh (k := (m : Int))
    have hOW : Only F w ((w1.setCell ⟨l, 3, none⟩ (.int .i64 (G'.length : Int))).setCell ⟨l, 3, none⟩ (.int .i64 (m : Int))) := by
      first
        | exact (HO1.out.setCell (p := ⟨l, 3, none⟩) HlF.out _).setCell (p := ⟨l, 3, none⟩) HlF.out _
        | exact HO1.out.setCell (p := ⟨l, 3, none⟩) HlF.out _
    have hzW : ((w1.setCell ⟨l, 3, none⟩ (.int .i64 (G'.length : Int))).setCell ⟨l, 3, none⟩ (.int .i64 (m : Int))).heap.size = w1.heap.size := by simp
    have HW := Lib.hid hW
    have HOW := Lib.hid hOW
    clear hW hOW c1 c3 f3 HX HO1
    generalize (w1.setCell ⟨l, 3, none⟩ (.int .i64 (G'.length : Int))).setCell ⟨l, 3, none⟩ (.int .i64 (m : Int)) = W at *
    obtain ⟨x, hx⟩ : ∃ x, vs'[m]? = some x := ⟨_, List.getElem?_eq_getElem (by rw [HW.out.len]; omega)⟩
    obtain ⟨g, hg⟩ : ∃ g, G'[m]? = some g := ⟨_, List.getElem?_eq_getElem (by omega)⟩
    obtain ⟨hrow, hgp⟩ := HW.out.rows m x g hx hg
    obtain ⟨A2, cap2, hx2, hn3, hn4, hr2⟩ := hrow.shape eltCg
    obtain ⟨A3, cap3, hgv3, _, _, hr3⟩ := HW.out.gr.shape eltG
    have hA : A3 = A1 := (Value.slice.inj (HGV.out.symm.trans hgv3)).1.symm
    subst hA
    obtain ⟨ga, oa, rfl, hga, hat⟩ := hr3.at_ eltG hx
    have k0 := hat 0 _ rfl
    rw [Nat.mul_one, Nat.add_zero] at k0
    replace k0 := k0.trans (congrArg some hx2)
    have X1 : ∀ X : UpW W.heap.size W, X.w.cell? ⟨l, 1, none⟩ = some (.slice (some ⟨ga, oa, none⟩) G'.length cap1) := fun X => by
      have := (HW.out.blk.up X.up).cell (j := 1) rfl
      rw [HGV.out] at this; exact this
    have X3 : ∀ X : UpW W.heap.size W, X.w.cell? ⟨l, 3, none⟩ = some (.int .i64 (m : Int)) := fun X => (HW.out.blk.up X.up).cell (j := 3) rfl
    have XK : ∀ X : UpW W.heap.size W, X.w.cell? ⟨ga, oa + m, none⟩ = some (.slice A2 g.length cap2) := fun X => cell_up k0 X.up
    have hgl : g.length ≤ 900002 := HGG.out g (List.mem_of_getElem? hg)
    have HCL := Lib.hid (fun (V : World) (hb : Below W.heap.size W V) => cloneCg (hr2.up hb) cap2 (by omega))
    have hmi : (m : Int) < (G'.length : Int) := by omega
    have HG := Lib.hid hg
    clear hat k0 hr2 hr3 hgv3 hx hx2 hrow hn3 hn4 hg
    refine wp_region_mix W.heap.size 12 [([0, 1, 2, 3, 4, 5, 6, 7, 8, 9], 10)] [11] (by kernel_rfl) (fun c d v a w h => by cases d <;> exact h) (by kernel_rfl) ?_
    simp only [wpMix, pk_nil, pk_cons, pushAt_zero, pushAt_succ, List.drop_succ_cons, List.drop_zero]
    repeat (go_big_quiet_step (fail))
    refine wpQuiet_nil ?_
    clear X1 X3 XK
    go_wp2_with fail
    refine (HCL.out _ (Below.refl _ W).drew).mono ?_
    rintro e w4 ⟨v, rfl, hown, hb4⟩
    go_wp2_with fail
    have hb4' : Below W.heap.size W w4 := ((Below.refl _ W).drew).trans hb4
    refine thenQ_normal ⟨⟨⟨_, hb4'⟩, rfl⟩, ?_⟩
    repeat (go_big_quiet_step (fail))
    refine wpQuiet_nil ?_
    go_wp2_with fail
    refine (revCg hown (by omega)).mono ?_
    rintro e w5 ⟨rfl, hown5, ho5⟩
    go_wp2_with fail
    go_ret2
    have hvb : ∀ k, v.ownBlock = some k → W.heap.size ≤ k := fun k hk => hown.base hk
    have z2 := HOW.out.size
    have z4 := hb4'.size
    have z5 := ho5.size
    refine ⟨(HOW.out.trans (Only.of_below hb4')).then ho5 (fun k hk hlt => by have := hvb k hk; omega), W.heap.size, by omega, by omega, .inr ⟨m, g, v, hC0.out, HG.out, rfl, ⟨_, _, _, (HW.out.up hb4').only ho5 (fun k hk e => by have := (HF1.out k hk).2; have := hvb k e; omega), ?_⟩, hown5.low (by show W.heap.size ≤ W.drew.heap.size; exact Nat.le_refl _)⟩⟩
    intro k hk; have := HF1.out k hk; exact ⟨this.1, by omega⟩


set_option maxRecDepth 100000 in
set_option maxHeartbeats 4000000 in
theorem lundo2 (h : LogF1 w l F G O ch co nw) (hc : co ≤ 1048576) (hv : G.length ≤ 900000) (hO : O.length ≤ 900000) (hn : O = [] → nw = 0) (hGG : ∀ g ∈ logShut G O, g.length ≤ 900002) {C : Int} (hCC : C = (logShut G O).length) (hch : ch < 0) :
    Calls Tryz.prog 80 #[pAt l, .bool true] w (UndoP w l F (logShut G O) co C) := by
  obtain ⟨gv, ov, vs, hx, hf⟩ := h
  have HN := Lib.hid (gnoneL hx.blk)
  have hcl := lclose_any hx hc (by rw [hx.len]; omega) hn
  have hll : (logShut G O).length ≤ 900001 := by
    unfold logShut
    split
    · omega
    · simp; omega
  generalize logShut G O = G' at *
  have HC := Lib.hid hcl
  have HF := Lib.hid hf
  have HL := Lib.hid hll
  have HGG := Lib.hid hGG
  clear hx hn hv hf hll hc hGG hO hcl
  go_enter Tryz.func80, Tryz.ntmps80
  go_wp2_with fail
  refine HN.out.mono ?_
  rintro e w0 ⟨rfl, rfl⟩
  go_wp2_with fail
  refine HC.out.mono ?_
  rintro e w1 ⟨rfl, ho1, gv', ov', vs', hx1, hf1⟩
  have HX := Lib.hid hx1
  have HO1 := Lib.hid (ho1.mono HF.out)
  have HF1 : Hid (∀ k, logFoot l gv' ov' vs' k → grow F w.heap.size k ∧ k < w1.heap.size) := Lib.hid (fun k hk => ⟨(hf1 k hk).elim (fun e => .inl (HF.out k e)) .inr, hx1.foot_lt hk⟩)
  have HlF := Lib.hid (HF.out l (.inl rfl))
  have z1 := ho1.size
  clear ho1 hx1 hf1 HC HN
  obtain ⟨A1, cap1, hgv, hn1, hn2, hr1⟩ := HX.out.gr.shape eltG
  have hvl : vs'.length = G'.length := HX.out.len
  rw [hvl] at hgv hn1
  have c1 : w1.cell? ⟨l, 1, none⟩ = some (.slice A1 G'.length cap1) := by rw [← hgv]; exact HX.out.blk.cell (j := 1) rfl
  have c3 : w1.cell? ⟨l, 3, none⟩ = some (.int .i64 ch) := HX.out.blk.cell (j := 3) rfl
  have f3 := HX.out.blk.fz 3
  have HGV := Lib.hid hgv
  clear hvl hr1 hgv
  by_cases hz : C = 0
  · have hC0 := Lib.hid hz
    have hl0 : G'.length = 0 := by omega
    rw [hl0] at c1
    have dch : decide (ch < 0) = true := decide_eq_true hch
    go_wp2_with fail
    go_ret2
    have z2 := HO1.out.size
    refine ⟨HO1.out.setCell (p := ⟨l, 3, none⟩) HlF.out _, w1.heap.size, by omega, by simp, .inl ⟨hC0.out, rfl, ⟨_, _, _, HX.out.setCh (k := 0), HF1.out⟩⟩⟩
  · obtain ⟨m, hm⟩ : ∃ m : Nat, C = ((m + 1 : Nat) : Int) := ⟨(C - 1).toNat, by omega⟩
    have hC0 := Lib.hid hm
    have hmm : m < G'.length := by omega
    have d0 : (((G'.length : Nat) : Int) == 0) = false := by rw [beq_eq_false_iff_ne]; omega
    have n0 : (G'.length = 0) = False := eq_false (by omega)
    have n1 : (G' = []) = False := eq_false (fun e => by rw [e] at hmm; simp at hmm)
    have s1 : IntKind.i64.wrap (((G'.length : Nat) : Int) - 1) = (m : Int) := by rw [IntWalk.i64_in _ (by have := HL.out; omega)]; omega
    have dch : decide (ch < 0) = true := decide_eq_true hch
    go_wp2_with fail
    have hW : LogX ((w1.setCell ⟨l, 3, none⟩ (.int .i64 (G'.length : Int))).setCell ⟨l, 3, none⟩ (.int .i64 (m : Int))) l gv' ov' vs' G' [] m co 0 := by
      have := (HX.out.setCh (k := ((G'.length : Nat) : Int))).setCh (k := (m : Int))
      first | exact this | exact HX.out.setCh (k := (m : Int))
    have hOW : Only F w ((w1.setCell ⟨l, 3, none⟩ (.int .i64 (G'.length : Int))).setCell ⟨l, 3, none⟩ (.int .i64 (m : Int))) := by
      first
        | exact (HO1.out.setCell (p := ⟨l, 3, none⟩) HlF.out _).setCell (p := ⟨l, 3, none⟩) HlF.out _
        | exact HO1.out.setCell (p := ⟨l, 3, none⟩) HlF.out _
    have hzW : ((w1.setCell ⟨l, 3, none⟩ (.int .i64 (G'.length : Int))).setCell ⟨l, 3, none⟩ (.int .i64 (m : Int))).heap.size = w1.heap.size := by simp
    have HW := Lib.hid hW
    have HOW := Lib.hid hOW
    clear hW hOW c1 c3 f3 HX HO1
    generalize (w1.setCell ⟨l, 3, none⟩ (.int .i64 (G'.length : Int))).setCell ⟨l, 3, none⟩ (.int .i64 (m : Int)) = W at *
    obtain ⟨x, hx⟩ : ∃ x, vs'[m]? = some x := ⟨_, List.getElem?_eq_getElem (by rw [HW.out.len]; omega)⟩
    obtain ⟨g, hg⟩ : ∃ g, G'[m]? = some g := ⟨_, List.getElem?_eq_getElem (by omega)⟩
    obtain ⟨hrow, hgp⟩ := HW.out.rows m x g hx hg
    obtain ⟨A2, cap2, hx2, hn3, hn4, hr2⟩ := hrow.shape eltCg
    obtain ⟨A3, cap3, hgv3, _, _, hr3⟩ := HW.out.gr.shape eltG
    have hA : A3 = A1 := (Value.slice.inj (HGV.out.symm.trans hgv3)).1.symm
    subst hA
    obtain ⟨ga, oa, rfl, hga, hat⟩ := hr3.at_ eltG hx
    have k0 := hat 0 _ rfl
    rw [Nat.mul_one, Nat.add_zero] at k0
    replace k0 := k0.trans (congrArg some hx2)
    have X1 : ∀ X : UpW W.heap.size W, X.w.cell? ⟨l, 1, none⟩ = some (.slice (some ⟨ga, oa, none⟩) G'.length cap1) := fun X => by
      have := (HW.out.blk.up X.up).cell (j := 1) rfl
      rw [HGV.out] at this; exact this
    have X3 : ∀ X : UpW W.heap.size W, X.w.cell? ⟨l, 3, none⟩ = some (.int .i64 (m : Int)) := fun X => (HW.out.blk.up X.up).cell (j := 3) rfl
    have XK : ∀ X : UpW W.heap.size W, X.w.cell? ⟨ga, oa + m, none⟩ = some (.slice A2 g.length cap2) := fun X => cell_up k0 X.up
    have hgl : g.length ≤ 900002 := HGG.out g (List.mem_of_getElem? hg)
    have HCL := Lib.hid (fun (V : World) (hb : Below W.heap.size W V) => cloneCg (hr2.up hb) cap2 (by omega))
    have hmi : (m : Int) < (G'.length : Int) := by omega
    have HG := Lib.hid hg
    clear hat k0 hr2 hr3 hgv3 hx hx2 hrow hn3 hn4 hg
    refine wp_region_mix W.heap.size 12 [([0, 1, 2, 3, 4, 5, 6, 7, 8, 9], 10)] [11] (by kernel_rfl) (fun c d v a w h => by cases d <;> exact h) (by kernel_rfl) ?_
    simp only [wpMix, pk_nil, pk_cons, pushAt_zero, pushAt_succ, List.drop_succ_cons, List.drop_zero]
    repeat (go_big_quiet_step (fail))
    refine wpQuiet_nil ?_
    clear X1 X3 XK
    go_wp2_with fail
    refine (HCL.out _ (Below.refl _ W).drew).mono ?_
    rintro e w4 ⟨v, rfl, hown, hb4⟩
    go_wp2_with fail
    have hb4' : Below W.heap.size W w4 := ((Below.refl _ W).drew).trans hb4
    refine thenQ_normal ⟨⟨⟨_, hb4'⟩, rfl⟩, ?_⟩
    repeat (go_big_quiet_step (fail))
    refine wpQuiet_nil ?_
    go_wp2_with fail
    refine (revCg hown (by omega)).mono ?_
    rintro e w5 ⟨rfl, hown5, ho5⟩
    go_wp2_with fail
    go_ret2
    have hvb : ∀ k, v.ownBlock = some k → W.heap.size ≤ k := fun k hk => hown.base hk
    have z2 := HOW.out.size
    have z4 := hb4'.size
    have z5 := ho5.size
    refine ⟨(HOW.out.trans (Only.of_below hb4')).then ho5 (fun k hk hlt => by have := hvb k hk; omega), W.heap.size, by omega, by omega, .inr ⟨m, g, v, hC0.out, HG.out, rfl, ⟨_, _, _, (HW.out.up hb4').only ho5 (fun k hk e => by have := (HF1.out k hk).2; have := hvb k e; omega), ?_⟩, hown5.low (by show W.heap.size ≤ W.drew.heap.size; exact Nat.le_refl _)⟩⟩
    intro k hk; have := HF1.out k hk; exact ⟨this.1, by omega⟩


set_option maxRecDepth 100000 in
set_option maxHeartbeats 4000000 in
theorem lundo3 (h : LogF1 w l F G O ch co nw) (hc : co ≤ 1048576) (hv : G.length ≤ 900000) (hO : O.length ≤ 900000) (hn : O = [] → nw = 0) (hGG : ∀ g ∈ logShut G O, g.length ≤ 900002) {C : Int} (hCC : C = ch) (hch : 0 ≤ ch) (hch2 : ch ≤ (logShut G O).length) :
    Calls Tryz.prog 80 #[pAt l, .bool true] w (UndoP w l F (logShut G O) co C) := by
  obtain ⟨gv, ov, vs, hx, hf⟩ := h
  have HN := Lib.hid (gnoneL hx.blk)
  have hcl := lclose_any hx hc (by rw [hx.len]; omega) hn
  have hll : (logShut G O).length ≤ 900001 := by
    unfold logShut
    split
    · omega
    · simp; omega
  generalize logShut G O = G' at *
  have HC := Lib.hid hcl
  have HF := Lib.hid hf
  have HL := Lib.hid hll
  have HGG := Lib.hid hGG
  clear hx hn hv hf hll hc hGG hO hcl
  go_enter Tryz.func80, Tryz.ntmps80
  go_wp2_with fail
  refine HN.out.mono ?_
  rintro e w0 ⟨rfl, rfl⟩
  go_wp2_with fail
  refine HC.out.mono ?_
  rintro e w1 ⟨rfl, ho1, gv', ov', vs', hx1, hf1⟩
  have HX := Lib.hid hx1
  have HO1 := Lib.hid (ho1.mono HF.out)
  have HF1 : Hid (∀ k, logFoot l gv' ov' vs' k → grow F w.heap.size k ∧ k < w1.heap.size) := Lib.hid (fun k hk => ⟨(hf1 k hk).elim (fun e => .inl (HF.out k e)) .inr, hx1.foot_lt hk⟩)
  have HlF := Lib.hid (HF.out l (.inl rfl))
  have z1 := ho1.size
  clear ho1 hx1 hf1 HC HN
  obtain ⟨A1, cap1, hgv, hn1, hn2, hr1⟩ := HX.out.gr.shape eltG
  have hvl : vs'.length = G'.length := HX.out.len
  rw [hvl] at hgv hn1
  have c1 : w1.cell? ⟨l, 1, none⟩ = some (.slice A1 G'.length cap1) := by rw [← hgv]; exact HX.out.blk.cell (j := 1) rfl
  have c3 : w1.cell? ⟨l, 3, none⟩ = some (.int .i64 ch) := HX.out.blk.cell (j := 3) rfl
  have f3 := HX.out.blk.fz 3
  have HGV := Lib.hid hgv
  clear hvl hr1 hgv
  by_cases hz : C = 0
  · have hC0 := Lib.hid hz
    have dch : decide (ch < 0) = false := decide_eq_false (by omega)
    have dn : (ch < 0) = False := eq_false (by omega)
    rw [show ch = 0 by omega] at c3 dch dn HX
    go_wp2_with fail
    go_ret2
    have z2 := HO1.out.size
    refine ⟨HO1.out, w1.heap.size, by omega, by simp, .inl ⟨hC0.out, rfl, ⟨_, _, _, HX.out, HF1.out⟩⟩⟩
  · obtain ⟨m, hm⟩ : ∃ m : Nat, C = ((m + 1 : Nat) : Int) := ⟨(C - 1).toNat, by omega⟩
    have hC0 := Lib.hid hm
    have hmm : m < G'.length := by omega
    have dch : decide (ch < 0) = false := decide_eq_false (by omega)
    have dn : (ch < 0) = False := eq_false (by omega)
    have d0 : (ch == 0) = false := by simp; omega
    have n0 : (ch = 0) = False := eq_false (by omega)
    have s1 : IntKind.i64.wrap (ch - 1) = (m : Int) := by rw [IntWalk.i64_in _ (by have := HL.out; omega)]; omega
    go_wp2_with fail
    have hW : LogX (w1.setCell ⟨l, 3, none⟩ (.int .i64 (m : Int))) l gv' ov' vs' G' [] m co 0 := by
      have := (HX.out.setCh (k := ((G'.length : Nat) : Int))).setCh (k := (m : Int))
      first | exact this | exact HX.out.setCh (k := (m : Int))
    have hOW : Only F w (w1.setCell ⟨l, 3, none⟩ (.int .i64 (m : Int))) := by
      first
        | exact (HO1.out.setCell (p := ⟨l, 3, none⟩) HlF.out _).setCell (p := ⟨l, 3, none⟩) HlF.out _
        | exact HO1.out.setCell (p := ⟨l, 3, none⟩) HlF.out _
    have hzW : (w1.setCell ⟨l, 3, none⟩ (.int .i64 (m : Int))).heap.size = w1.heap.size := by simp
    have HW := Lib.hid hW
    have HOW := Lib.hid hOW
    clear hW hOW c1 c3 f3 HX HO1
    generalize w1.setCell ⟨l, 3, none⟩ (.int .i64 (m : Int)) = W at *
    obtain ⟨x, hx⟩ : ∃ x, vs'[m]? = some x := ⟨_, List.getElem?_eq_getElem (by rw [HW.out.len]; omega)⟩
    obtain ⟨g, hg⟩ : ∃ g, G'[m]? = some g := ⟨_, List.getElem?_eq_getElem (by omega)⟩
    obtain ⟨hrow, hgp⟩ := HW.out.rows m x g hx hg
    obtain ⟨A2, cap2, hx2, hn3, hn4, hr2⟩ := hrow.shape eltCg
    obtain ⟨A3, cap3, hgv3, _, _, hr3⟩ := HW.out.gr.shape eltG
    have hA : A3 = A1 := (Value.slice.inj (HGV.out.symm.trans hgv3)).1.symm
    subst hA
    obtain ⟨ga, oa, rfl, hga, hat⟩ := hr3.at_ eltG hx
    have k0 := hat 0 _ rfl
    rw [Nat.mul_one, Nat.add_zero] at k0
    replace k0 := k0.trans (congrArg some hx2)
    have X1 : ∀ X : UpW W.heap.size W, X.w.cell? ⟨l, 1, none⟩ = some (.slice (some ⟨ga, oa, none⟩) G'.length cap1) := fun X => by
      have := (HW.out.blk.up X.up).cell (j := 1) rfl
      rw [HGV.out] at this; exact this
    have X3 : ∀ X : UpW W.heap.size W, X.w.cell? ⟨l, 3, none⟩ = some (.int .i64 (m : Int)) := fun X => (HW.out.blk.up X.up).cell (j := 3) rfl
    have XK : ∀ X : UpW W.heap.size W, X.w.cell? ⟨ga, oa + m, none⟩ = some (.slice A2 g.length cap2) := fun X => cell_up k0 X.up
    have hgl : g.length ≤ 900002 := HGG.out g (List.mem_of_getElem? hg)
    have HCL := Lib.hid (fun (V : World) (hb : Below W.heap.size W V) => cloneCg (hr2.up hb) cap2 (by omega))
    have hmi : (m : Int) < (G'.length : Int) := by omega
    have HG := Lib.hid hg
    clear hat k0 hr2 hr3 hgv3 hx hx2 hrow hn3 hn4 hg
    refine wp_region_mix W.heap.size 12 [([0, 1, 2, 3, 4, 5, 6, 7, 8, 9], 10)] [11] (by kernel_rfl) (fun c d v a w h => by cases d <;> exact h) (by kernel_rfl) ?_
    simp only [wpMix, pk_nil, pk_cons, pushAt_zero, pushAt_succ, List.drop_succ_cons, List.drop_zero]
    repeat (go_big_quiet_step (fail))
    refine wpQuiet_nil ?_
    clear X1 X3 XK
    go_wp2_with fail
    refine (HCL.out _ (Below.refl _ W).drew).mono ?_
    rintro e w4 ⟨v, rfl, hown, hb4⟩
    go_wp2_with fail
    have hb4' : Below W.heap.size W w4 := ((Below.refl _ W).drew).trans hb4
    refine thenQ_normal ⟨⟨⟨_, hb4'⟩, rfl⟩, ?_⟩
    repeat (go_big_quiet_step (fail))
    refine wpQuiet_nil ?_
    go_wp2_with fail
    refine (revCg hown (by omega)).mono ?_
    rintro e w5 ⟨rfl, hown5, ho5⟩
    go_wp2_with fail
    go_ret2
    have hvb : ∀ k, v.ownBlock = some k → W.heap.size ≤ k := fun k hk => hown.base hk
    have z2 := HOW.out.size
    have z4 := hb4'.size
    have z5 := ho5.size
    refine ⟨(HOW.out.trans (Only.of_below hb4')).then ho5 (fun k hk hlt => by have := hvb k hk; omega), W.heap.size, by omega, by omega, .inr ⟨m, g, v, hC0.out, HG.out, rfl, ⟨_, _, _, (HW.out.up hb4').only ho5 (fun k hk e => by have := (HF1.out k hk).2; have := hvb k e; omega), ?_⟩, hown5.low (by show W.heap.size ≤ W.drew.heap.size; exact Nat.le_refl _)⟩⟩
    intro k hk; have := HF1.out k hk; exact ⟨this.1, by omega⟩


theorem lundo (h : LogF1 w l F G O ch co nw) (hc : co ≤ 1048576) (hv : G.length ≤ 900000) (hO : O.length ≤ 900000) (hn : O = [] → nw = 0) (hGG : ∀ g ∈ logShut G O, g.length ≤ 900002) (again : Bool) (hch : ch ≤ (logShut G O).length) :
    Calls Tryz.prog 80 #[pAt l, .bool again] w (UndoP w l F (logShut G O) co (chainN again ch (logShut G O).length)) := by
  unfold chainN
  cases again with
  | false => rw [if_pos (.inl rfl)]; exact lundo1 h hc hv hO hn hGG rfl
  | true =>
    by_cases h0 : ch < 0
    · rw [if_pos (.inr h0)]; exact lundo2 h hc hv hO hn hGG rfl h0
    · rw [if_neg (fun e => e.elim (by simp) h0)]; exact lundo3 h hc hv hO hn hGG rfl (by omega) hch
end
end Go.Proofs.YtphdkcdkhklicaaGreatDoor
/- Package buffer: Insert, Boundary, Size, Narrow. -/
namespace Go.Proofs.YtphdkcdkhklicaaGreatDoor
open Go.RowKit
set_option linter.unusedVariables false
set_option linter.unusedSimpArgs false
section
variable {w w' : World} {b g : Nat} {S : BS} {cs : List Nat}
set_option maxHeartbeats 1000000 in
theorem Insert_ok {N b t g l mm m p o : Nat} {lock pr ev : Int} (hT : Tabs N w) (hR : Rules N w) (h : Fr w N b t g l mm m p o lock pr ev) (s : ByteArray) (hs : s.size ≤ 10000) (hv : (charsD s.data.toList).isSome = true) :
    Calls Tryz.prog 34 #[pAt b, .string s] w fun r w' => r = .returned (.int .i64 0) ∧ Only (fun k => k = b ∨ k = l ∨ k = t ∨ k = p) w w' ∧
      BufB w' b (aftS t m p o l lock (chrs s).length (decide ((chrs s).length = 0))) ∧ (∃ g', g ≤ g' ∧ g' ≠ b ∧ g' ≠ l ∧ GapR w' t g' (chrs s)) ∧ LogF w' l := by
  have HI := Lib.hid (insert_ok hT hR h s hs hv)
  clear hT hR h hs hv
  go_enter Tryz.func34, Tryz.ntmps34
  go_wp2_with fail
  refine HI.out.mono ?_
  rintro r w' ⟨rfl, h1, h2⟩
  have H2 := Lib.hid h2
  clear h2
  go_wp2_with fail
  go_ret
  exact ⟨rfl, h1, H2.out⟩
set_option maxHeartbeats 1000000 in
theorem bBoundary_ok (h : BufB w b S) (hlg : S.logs = true) (hL : LogF w S.l) (hbl : b ≠ S.l) : Calls Tryz.prog 35 #[pAt b] w fun r w' => r = .returned (.int .i64 0) ∧ Only (fun k => k = b ∨ k = S.l) w w' ∧ BufB w' b { S with empty := true } := by
  have c14 : w.cell? ⟨b, 14, none⟩ = some (.bool true) := by rw [← hlg]; exact h.cell (j := 14) rfl
  have c13 := h.cell (j := 13) rfl
  have HN := Lib.hid (bnoneB h)
  have HL := Lib.hid (ubound_ok hL)
  have H := Lib.hid h
  clear h hL
  go_enter Tryz.func35, Tryz.ntmps35
  go_wp2_with fail
  refine HN.out.mono ?_
  rintro r w1 ⟨rfl, rfl⟩
  go_wp2_with fail
  refine HL.out.mono ?_
  rintro r w1 ⟨rfl, ho⟩
  have hk := H.out.only ho hbl
  have q15 := hk.cell (j := 15) rfl
  have f15 := hk.fz 15
  have HK := Lib.hid hk
  clear hk
  go_wp2_with fail
  go_ret
  exact ⟨rfl, (ho.mono (T := fun k => k = b ∨ k = S.l) (fun k hk => .inr hk)).setCell (p := ⟨b, 15, none⟩) (.inl rfl) _, HK.out.set (j := 15) (by simp) (.bool true)⟩
set_option maxHeartbeats 1000000 in
theorem bSize_ok (h : BufT w b g S cs) : Calls Tryz.prog 10 #[pAt b] w fun r w' => r = .returned (.int .i64 cs.length) ∧ Below w.heap.size w w' := bsize h.r
/-! ### Narrow -/
def mayB (n : Nat) (x y : Int) : Bool := decide (1 ≤ x) && decide (x ≤ y) && decide (y ≤ (n : Int) + 1)
set_option maxHeartbeats 1000000 in
theorem stand_ok (h : BufB w b S) (x : Nat) : Calls Tryz.prog 131 #[pAt b, .int .i64 x] w fun r w' => r = .returned (.tuple #[]) ∧ Only (fun k => k = b) w w' ∧ BufB w' b { S with pt := min (max x S.lo) S.hi } := by
  have c0 := h.cell (j := 0) rfl
  have c1 : w.cell? ⟨b, 1, none⟩ = some (.int .i64 (S.lo : Int)) := h.cell (j := 1) rfl
  have c2 : w.cell? ⟨b, 2, none⟩ = some (.int .i64 (S.hi : Int)) := h.cell (j := 2) rfl
  have f0 := h.fz 0
  have e1 : max (x : Int) (S.lo : Int) = ((max x S.lo : Nat) : Int) := by omega
  have e2 : min ((max x S.lo : Nat) : Int) (S.hi : Int) = ((min (max x S.lo) S.hi : Nat) : Int) := by omega
  have H := Lib.hid h
  clear h
  go_enter Tryz.func131, Tryz.ntmps131
  go_region
  go_wp2_with fail
  go_end0
  exact ⟨rfl, (Only.setCell (S := fun k => k = b) (p := ⟨b, 0, none⟩) (Only.refl _ w) rfl _).drew, H.out.set (j := 0) (by simp) (.int .i64 ((min (max x S.lo) S.hi : Nat) : Int))⟩
end
end Go.Proofs.YtphdkcdkhklicaaGreatDoor
