/- copyistlaw16.do: one act, in plain terms. -/
import Derived.Test.YtlnpjdihdemgmaaMkE
namespace Go.Proofs.Ytlnpjdihdemgmaa
open Go.RowKit
set_option linter.unusedVariables false
variable {b bm : Nat} {m : List (Int × Mk)} {n : Int} {w : World}

/-- What an act leaves and hands back. -/
structure DoR where
  m : List (Int × Mk)
  n : Int
  ret : Int
  err : Int
/-- An act. -/
structure Act6 where
  kind : Int
  id : Int
  at_ : Int
  to : Int
  n : Int
  on : Bool
abbrev actV (a : Act6) : Value := .agg #[.int .i64 a.kind, .int .i64 a.id, .int .i64 a.at_, .int .i64 a.to, .int .i64 a.n, .bool a.on]
def addR (m : List (Int × Mk)) (n a : Int) (on : Bool) : DoR := if placeI a = false then ⟨m, n, 0, 3⟩ else if 4096 ≤ m.length then ⟨m, n, 0, 7⟩ else ⟨m ++ [(n, (a, on))], n + 1, n, 0⟩
def dropR (m : List (Int × Mk)) (n id : Int) : DoR := match lookM m id with | none => ⟨m, n, 0, 8⟩ | some _ => ⟨delM m id, n, 0, 0⟩
def moveR (m : List (Int × Mk)) (n id a : Int) : DoR := match lookM m id with | none => ⟨m, n, 0, 8⟩ | some x => if placeI a = false then ⟨m, n, 0, 3⟩ else ⟨putM m id (a, x.2), n, 0, 0⟩
def setR (m : List (Int × Mk)) (n id : Int) (on : Bool) : DoR := match lookM m id with | none => ⟨m, n, 0, 8⟩ | some x => ⟨putM m id (x.1, on), n, 0, 0⟩
def insR (m : List (Int × Mk)) (n a k : Int) (ahead : Bool) : DoR :=
  if placeI a = false then ⟨m, n, 0, 3⟩ else if k < 0 ∨ 65536 < k then ⟨m, n, 0, 2⟩ else if (m.all (fun p => placeI (insAt a k ahead p.2))) = true then ⟨insM_ a k ahead m, n, 0, 0⟩ else ⟨m, n, 0, 3⟩
def delR (m : List (Int × Mk)) (n from_ to : Int) : DoR := if delOk from_ to = true then ⟨delM_ from_ to m, n, 0, 0⟩ else ⟨m, n, 0, 3⟩
def doR (m : List (Int × Mk)) (n : Int) (a : Act6) : DoR :=
  if pickI a.kind 8 = 0 ∨ pickI a.kind 8 = 1 then addR m n a.at_ a.on
  else if pickI a.kind 8 = 2 then dropR m n a.id
  else if pickI a.kind 8 = 3 then moveR m n a.id a.at_
  else if pickI a.kind 8 = 4 then setR m n a.id a.on
  else if pickI a.kind 8 = 5 ∨ pickI a.kind 8 = 6 then insR m n a.at_ a.n a.on
  else delR m n a.at_ a.to

/-- One result: the error. -/
def Post1 (w : World) (b bm : Nat) (r : DoR) (e : Ending) (w' : World) : Prop := e = .returned (.int .i64 r.err) ∧ MarksAt w' b bm r.m r.n ∧ Only (Own2 b bm) w w'
/-- Two results: a number and the error. -/
def Post2 (w : World) (b bm : Nat) (r : DoR) (e : Ending) (w' : World) : Prop := e = .returned (.tuple #[.int .i64 r.ret, .int .i64 r.err]) ∧ MarksAt w' b bm r.m r.n ∧ Only (Own2 b bm) w w'

theorem add_all (h : MarksAt w b bm m n) (a : Int) (on : Bool) (hn0 : 0 ≤ n) (hn1 : n ≤ 1000000000) : Calls Try.prog 14 #[.pointer (some ⟨b, 0, none⟩), .int .i64 a, .bool on] w (Post2 w b bm (addR m n a on)) := by
  unfold addR
  by_cases h1 : placeI a = false
  · rw [if_pos h1]; exact (add_range h a on h1).mono fun e w' ⟨he, hw⟩ => ⟨he, hw ▸ h, hw ▸ Only.refl _ _⟩
  · rw [if_neg h1]
    have h1' : placeI a = true := by simpa using h1
    by_cases h2 : 4096 ≤ m.length
    · rw [if_pos h2]; exact (add_full h a on h1' h2).mono fun e w' ⟨he, hw⟩ => ⟨he, hw ▸ h, hw ▸ Only.refl _ _⟩
    · rw [if_neg h2]; exact add_ok h a on h1' (by omega) hn0 hn1
theorem drop_all (h : MarksAt w b bm m n) (id : Int) : Calls Try.prog 18 #[.pointer (some ⟨b, 0, none⟩), .int .i64 id] w (Post1 w b bm (dropR m n id)) := by
  unfold dropR
  cases hx : lookM m id with
  | none => exact (drop_no h hx).mono fun e w' ⟨he, hb⟩ => ⟨he, h.up hb, Only.of_below hb⟩
  | some x => exact drop_yes h hx
theorem move_all (h : MarksAt w b bm m n) (id a : Int) : Calls Try.prog 20 #[.pointer (some ⟨b, 0, none⟩), .int .i64 id, .int .i64 a] w (Post1 w b bm (moveR m n id a)) := by
  unfold moveR
  cases hx : lookM m id with
  | none => exact (move_no h a hx).mono fun e w' ⟨he, hb⟩ => ⟨he, h.up hb, Only.of_below hb⟩
  | some x =>
    by_cases h1 : placeI a = false
    · simp only [h1, if_true]; exact (move_range h a hx h1).mono fun e w' ⟨he, hb⟩ => ⟨he, h.up hb, Only.of_below hb⟩
    · have h1' : placeI a = true := by simpa using h1
      simp only [h1]; exact move_ok h a hx h1'
theorem set_all (h : MarksAt w b bm m n) (id : Int) (on : Bool) : Calls Try.prog 40 #[.pointer (some ⟨b, 0, none⟩), .int .i64 id, .bool on] w (Post1 w b bm (setR m n id on)) := by
  unfold setR
  cases hx : lookM m id with
  | none => exact (set_no h on hx).mono fun e w' ⟨he, hb⟩ => ⟨he, h.up hb, Only.of_below hb⟩
  | some x => exact set_ok h on hx
theorem ins_all (h : MarksAt w b bm m n) (a k : Int) (ahead : Bool) : Calls Try.prog 16 #[.pointer (some ⟨b, 0, none⟩), .int .i64 a, .int .i64 k, .bool ahead] w (Post1 w b bm (insR m n a k ahead)) := by
  unfold insR
  by_cases h1 : placeI a = false
  · rw [if_pos h1]; exact (inserted_range h a k ahead h1).mono fun e w' ⟨he, hb⟩ => ⟨he, h.up hb, Only.of_below hb⟩
  · rw [if_neg h1]
    have h1' : placeI a = true := by simpa using h1
    by_cases h2 : k < 0 ∨ 65536 < k
    · rw [if_pos h2]; exact (inserted_arg h a k ahead h1' h2).mono fun e w' ⟨he, hb⟩ => ⟨he, h.up hb, Only.of_below hb⟩
    · rw [if_neg h2]
      by_cases h3 : (m.all (fun p => placeI (insAt a k ahead p.2))) = true
      · rw [if_pos h3]; exact inserted_ok h a k ahead h1' (by omega) (by omega) (fun p hp => by simpa using List.all_eq_true.1 h3 p hp)
      · rw [if_neg h3]
        have : ∃ p ∈ m, placeI (insAt a k ahead p.2) = false := by
          obtain ⟨p, hp, hf⟩ := List.all_eq_false.1 (Bool.eq_false_iff.2 h3)
          exact ⟨p, hp, by simpa using hf⟩
        obtain ⟨p, hp, hf⟩ := this
        exact (inserted_bad h a k ahead h1' (by omega) (by omega) hp hf).mono fun e w' ⟨he, hb⟩ => ⟨he, h.up hb, Only.of_below hb⟩
theorem del_all (h : MarksAt w b bm m n) (from_ to : Int) : Calls Try.prog 15 #[.pointer (some ⟨b, 0, none⟩), .int .i64 from_, .int .i64 to] w (Post1 w b bm (delR m n from_ to)) := by
  unfold delR
  by_cases h1 : delOk from_ to = true
  · rw [if_pos h1]; exact deleted_ok h from_ to h1
  · rw [if_neg h1]; exact (deleted_bad h from_ to (by simpa using h1)).mono fun e w' ⟨he, hb⟩ => ⟨he, h.up hb, Only.of_below hb⟩
theorem ret0 (m : List (Int × Mk)) (n : Int) (a : Act6) : 2 ≤ pickI a.kind 8 → (doR m n a).ret = 0 := by
  intro h
  unfold doR
  rw [if_neg (by omega)]
  split
  · unfold dropR; split <;> rfl
  · split
    · unfold moveR; split
      · rfl
      · split <;> rfl
    · split
      · unfold setR; split <;> rfl
      · split
        · unfold insR; split
          · rfl
          · split
            · rfl
            · split <;> rfl
        · unfold delR; split <;> rfl

set_option maxRecDepth 100000 in
set_option maxHeartbeats 4000000 in
theorem do_any (h : MarksAt w b bm m n) (a : Act6) (hn0 : 0 ≤ n) (hn1 : n ≤ 1000000000) : Calls Try.prog 21 #[.pointer (some ⟨b, 0, none⟩), actV a] w (Post2 w b bm (doR m n a)) := by
  have hB := below1 w (.cells #[.int .i64 a.kind, .int .i64 a.id, .int .i64 a.at_, .int .i64 a.to, .int .i64 a.n, .bool a.on] 32)
  have h1 := h.up hB
  obtain ⟨p0, p1⟩ := pick_pos a.kind 8 (by omega)
  have hr := ret0 m n a
  obtain ⟨ki, id, at_, to, nn, on⟩ := a
  dsimp only at *
  have hcase : pickI ki 8 = 0 ∨ pickI ki 8 = 1 ∨ pickI ki 8 = 2 ∨ pickI ki 8 = 3 ∨ pickI ki 8 = 4 ∨ pickI ki 8 = 5 ∨ pickI ki 8 = 6 ∨ pickI ki 8 = 7 := by omega
  clear p0 p1
  rcases hcase with hk | hk | hk | hk | hk | hk | hk | hk
  · have e : doR m n ⟨ki, id, at_, to, nn, on⟩ = addR m n at_ on := by simp [doR, hk]
    rw [e]
    clear hr
    skip
    clear e
    go_enter Try.func21, Try.ntmps21
    go_wp2_with (go_at_call 12; refine (pick_any _ _ _ (by omega) (by omega)).mono ?_; rintro e w' ⟨rfl, rfl⟩)
    refine (add_all h1 at_ on hn0 hn1).mono ?_
    rintro e w2 ⟨rfl, h2, ho⟩
    go_wp2
    go_ret2
    exact ⟨rfl, h2, (Only.of_below hB).trans ho⟩
  · have e : doR m n ⟨ki, id, at_, to, nn, on⟩ = addR m n at_ on := by simp [doR, hk]
    rw [e]
    clear hr
    skip
    clear e
    go_enter Try.func21, Try.ntmps21
    go_wp2_with (go_at_call 12; refine (pick_any _ _ _ (by omega) (by omega)).mono ?_; rintro e w' ⟨rfl, rfl⟩)
    refine (add_all h1 at_ on hn0 hn1).mono ?_
    rintro e w2 ⟨rfl, h2, ho⟩
    go_wp2
    go_ret2
    exact ⟨rfl, h2, (Only.of_below hB).trans ho⟩
  · have e : doR m n ⟨ki, id, at_, to, nn, on⟩ = dropR m n id := by simp [doR, hk]
    rw [e] at hr ⊢
    have hr0 := hr (by omega)
    clear hr
    clear e
    go_enter Try.func21, Try.ntmps21
    go_wp2_with (go_at_call 12; refine (pick_any _ _ _ (by omega) (by omega)).mono ?_; rintro e w' ⟨rfl, rfl⟩)
    refine (drop_all h1 id).mono ?_
    rintro e w2 ⟨rfl, h2, ho⟩
    have HR := Lib.hid hr0
    clear hr0
    go_wp2
    go_ret2
    exact ⟨by rw [HR.out]; rfl, h2, (Only.of_below hB).trans ho⟩
  · have e : doR m n ⟨ki, id, at_, to, nn, on⟩ = moveR m n id at_ := by simp [doR, hk]
    rw [e] at hr ⊢
    have hr0 := hr (by omega)
    clear hr
    clear e
    go_enter Try.func21, Try.ntmps21
    go_wp2_with (go_at_call 12; refine (pick_any _ _ _ (by omega) (by omega)).mono ?_; rintro e w' ⟨rfl, rfl⟩)
    refine (move_all h1 id at_).mono ?_
    rintro e w2 ⟨rfl, h2, ho⟩
    have HR := Lib.hid hr0
    clear hr0
    go_wp2
    go_ret2
    exact ⟨by rw [HR.out]; rfl, h2, (Only.of_below hB).trans ho⟩
  · have e : doR m n ⟨ki, id, at_, to, nn, on⟩ = setR m n id on := by simp [doR, hk]
    rw [e] at hr ⊢
    have hr0 := hr (by omega)
    clear hr
    clear e
    go_enter Try.func21, Try.ntmps21
    go_wp2_with (go_at_call 12; refine (pick_any _ _ _ (by omega) (by omega)).mono ?_; rintro e w' ⟨rfl, rfl⟩)
    refine (set_all h1 id on).mono ?_
    rintro e w2 ⟨rfl, h2, ho⟩
    have HR := Lib.hid hr0
    clear hr0
    go_wp2
    go_ret2
    exact ⟨by rw [HR.out]; rfl, h2, (Only.of_below hB).trans ho⟩
  · have e : doR m n ⟨ki, id, at_, to, nn, on⟩ = insR m n at_ nn on := by simp [doR, hk]
    rw [e] at hr ⊢
    have hr0 := hr (by omega)
    clear hr
    clear e
    go_enter Try.func21, Try.ntmps21
    go_wp2_with (go_at_call 12; refine (pick_any _ _ _ (by omega) (by omega)).mono ?_; rintro e w' ⟨rfl, rfl⟩)
    refine (ins_all h1 at_ nn on).mono ?_
    rintro e w2 ⟨rfl, h2, ho⟩
    have HR := Lib.hid hr0
    clear hr0
    go_wp2
    go_ret2
    exact ⟨by rw [HR.out]; rfl, h2, (Only.of_below hB).trans ho⟩
  · have e : doR m n ⟨ki, id, at_, to, nn, on⟩ = insR m n at_ nn on := by simp [doR, hk]
    rw [e] at hr ⊢
    have hr0 := hr (by omega)
    clear hr
    clear e
    go_enter Try.func21, Try.ntmps21
    go_wp2_with (go_at_call 12; refine (pick_any _ _ _ (by omega) (by omega)).mono ?_; rintro e w' ⟨rfl, rfl⟩)
    refine (ins_all h1 at_ nn on).mono ?_
    rintro e w2 ⟨rfl, h2, ho⟩
    have HR := Lib.hid hr0
    clear hr0
    go_wp2
    go_ret2
    exact ⟨by rw [HR.out]; rfl, h2, (Only.of_below hB).trans ho⟩
  · have e : doR m n ⟨ki, id, at_, to, nn, on⟩ = delR m n at_ to := by simp [doR, hk]
    rw [e] at hr ⊢
    have hr0 := hr (by omega)
    clear hr
    clear e
    go_enter Try.func21, Try.ntmps21
    go_wp2_with (go_at_call 12; refine (pick_any _ _ _ (by omega) (by omega)).mono ?_; rintro e w' ⟨rfl, rfl⟩)
    refine (del_all h1 at_ to).mono ?_
    rintro e w2 ⟨rfl, h2, ho⟩
    have HR := Lib.hid hr0
    clear hr0
    go_wp2
    go_ret2
    exact ⟨by rw [HR.out]; rfl, h2, (Only.of_below hB).trans ho⟩
end Go.Proofs.Ytlnpjdihdemgmaa
