import Derived.Test.YtnbccoelbfgmgaaGreatDoorZ18
import Derived.RangeFuncNested
import Derived.RangeFuncBound
import Derived.RangeFuncCalls
import Derived.RangeFuncLeaves
import Derived.RangeFuncFrom
import Derived.Shelf.Abstract
import Derived.Shelf.RegionOpen
import Derived.WalkKit
import Derived.OwnWalkIn
import Derived.TacticsInMore
import Derived.LoopNIn
import Derived.LoopIn
import Derived.Lib.Hide
import Derived.Test.YtnbccoelbfgmgaaGreatDoorZ00
import Derived.Test.YtnbccoelbfgmgaaGreatDoorZ04
import Derived.Test.YtnbccoelbfgmgaaGreatDoorZ07
import Derived.Test.YtnbccoelbfgmgaaGreatDoorZ10
import Derived.Laws.Append
import Derived.Test.YtnbccoelbfgmgaaGreatDoorZ08
import Derived.Test.YtnbccoelbfgmgaaGreatDoorLayM
import Derived.Test.YtnbccoelbfgmgaaGreatDoorZ12
/- Rectangles in plain Lean: bare; the whole plain law of KillBack. -/
namespace Go.Proofs.YtnbccoelbfgmgaaGreatDoor
open Go.RowKit Go.Lib
set_option linter.unusedVariables false
set_option linter.unusedSimpArgs false
/-- bare over bytes. -/
def bareG : List UInt8 → List UInt8 → List UInt8 → List UInt8
  | out, _, [] => out
  | out, gap, c :: l => if c = 32 then bareG out (gap ++ [32]) l else if c = 10 then bareG (out ++ [10]) [] l else bareG (out ++ gap ++ [c]) [] l
def bareB (s : ByteArray) : ByteArray := ⟨(bareG [] [] s.data.toList).toArray⟩
def bareN : List Nat → List Nat → List Nat → List Nat
  | out, _, [] => out
  | out, gap, c :: l => if c = 32 then bareN out (gap ++ [32]) l else if c = 10 then bareN (out ++ [10]) [] l else bareN (out ++ gap ++ [c]) [] l
theorem bareN_cons (out gap : List Nat) (c : Nat) (l : List Nat) : bareN out gap (c :: l) = if c = 32 then bareN out (gap ++ [32]) l else if c = 10 then bareN (out ++ [10]) [] l else bareN (out ++ gap ++ [c]) [] l := rfl
theorem bareG_map : ∀ (l out gap : List Nat), (∀ c ∈ l, c < 128) → bareG (out.map UInt8.ofNat) (gap.map UInt8.ofNat) (l.map UInt8.ofNat) = (bareN out gap l).map UInt8.ofNat
  | [], out, gap, h => rfl
  | c :: l, out, gap, h => by
    have hc : c < 128 := h c List.mem_cons_self
    have hl := fun x hx => h x (List.mem_cons_of_mem c hx)
    have e : ∀ d : Nat, d < 128 → (UInt8.ofNat c = UInt8.ofNat d ↔ c = d) := fun d hd => ⟨fun h => by
      have := congrArg UInt8.toNat h
      simp only [UInt8.toNat_ofNat'] at this
      omega, fun h => by rw [h]⟩
    show (if UInt8.ofNat c = UInt8.ofNat 32 then bareG (out.map UInt8.ofNat) (gap.map UInt8.ofNat ++ [32].map UInt8.ofNat) (l.map UInt8.ofNat) else if UInt8.ofNat c = UInt8.ofNat 10 then bareG (out.map UInt8.ofNat ++ [10].map UInt8.ofNat) ([].map UInt8.ofNat) (l.map UInt8.ofNat) else bareG (out.map UInt8.ofNat ++ gap.map UInt8.ofNat ++ [c].map UInt8.ofNat) ([].map UInt8.ofNat) (l.map UInt8.ofNat)) = _
    rw [← List.map_append, ← List.map_append, ← List.map_append, ← List.map_append, bareG_map l _ _ hl, bareG_map l _ _ hl, bareG_map l _ _ hl]
    rw [bareN_cons]
    by_cases h1 : c = 32
    · rw [if_pos ((e 32 (by omega)).2 h1), if_pos h1]
    · rw [if_neg (fun q => h1 ((e 32 (by omega)).1 q)), if_neg h1]
      by_cases h2 : c = 10
      · rw [if_pos ((e 10 (by omega)).2 h2), if_pos h2]
      · rw [if_neg (fun q => h2 ((e 10 (by omega)).1 q)), if_neg h2]
theorem bareB_enc {cs : List Nat} (h : ∀ c ∈ cs, c < 128) : bareB (encS cs) = ⟨((bareN [] [] cs).map UInt8.ofNat).toArray⟩ := by
  unfold bareB
  rw [encS_list, encL_ascii cs h]
  have := bareG_map cs [] [] h
  rw [List.map_nil] at this
  rw [this]
def bareS : List Nat → List Nat → List Nat → List Nat × List Nat
  | out, gap, [] => (out, gap)
  | out, gap, c :: l => if c = 32 then bareS out (gap ++ [32]) l else if c = 10 then bareS (out ++ [10]) [] l else bareS (out ++ gap ++ [c]) [] l
theorem bareS_cons (out gap : List Nat) (c : Nat) (l : List Nat) : bareS out gap (c :: l) = if c = 32 then bareS out (gap ++ [32]) l else if c = 10 then bareS (out ++ [10]) [] l else bareS (out ++ gap ++ [c]) [] l := rfl
theorem bareN_app : ∀ (P out gap l : List Nat), bareN out gap (P ++ l) = bareN (bareS out gap P).1 (bareS out gap P).2 l
  | [], out, gap, l => rfl
  | c :: P, out, gap, l => by
    rw [List.cons_append, bareN_cons, bareS_cons]
    split
    · exact bareN_app P _ _ l
    · split
      · exact bareN_app P _ _ l
      · exact bareN_app P _ _ l
theorem bareN_rep (l : List Nat) : ∀ (k : Nat) (out gap : List Nat), ∃ g, bareN out gap (List.replicate k 32 ++ l) = bareN out g l
  | 0, out, gap => ⟨gap, rfl⟩
  | k + 1, out, gap => by
    obtain ⟨g, hg⟩ := bareN_rep l k out (gap ++ [32])
    refine ⟨g, ?_⟩
    rw [List.replicate_succ, List.cons_append, bareN_cons, if_pos rfl, hg]
theorem bareN_end {l : List Nat} (h : l = [] ∨ ∃ q, l = 10 :: q) (out g g' : List Nat) : bareN out g l = bareN out g' l := by
  rcases h with rfl | ⟨q, rfl⟩
  · rfl
  · rw [bareN_cons, bareN_cons]; rfl
theorem bareN_lines (left right : Nat) (hlr : left ≤ right) {suf : List Nat} (hsf : suf = [] ∨ ∃ q, suf = 10 :: q) : ∀ (Ls : List (List Nat)) (L out gap : List Nat),
    bareN out gap (padK left right L ++ (tailJ (Ls.map (padK left right)) ++ suf)) = bareN out gap (L ++ (tailJ Ls ++ suf))
  | [], L, out, gap => by
    obtain ⟨k, _, e⟩ := padK_is left right hlr L
    rw [e, List.append_assoc, bareN_app L, bareN_app L]
    show bareN _ _ (List.replicate k 32 ++ suf) = bareN _ _ suf
    obtain ⟨g, hg⟩ := bareN_rep suf k (bareS out gap L).1 (bareS out gap L).2
    rw [hg]; exact bareN_end hsf _ _ _
  | M :: Ls, L, out, gap => by
    obtain ⟨k, _, e⟩ := padK_is left right hlr L
    rw [e, List.append_assoc, bareN_app L, bareN_app L]
    obtain ⟨g, hg⟩ := bareN_rep (tailJ ((M :: Ls).map (padK left right)) ++ suf) k (bareS out gap L).1 (bareS out gap L).2
    rw [hg]
    show bareN _ g (10 :: (padK left right M ++ tailJ (Ls.map (padK left right))) ++ suf) = bareN _ _ (10 :: (M ++ tailJ Ls) ++ suf)
    rw [List.cons_append, List.cons_append, bareN_cons, bareN_cons, if_neg (by omega), if_pos rfl, if_neg (by omega), if_pos rfl, List.append_assoc, List.append_assoc]
    exact bareN_lines left right hlr hsf Ls M _ _
/-- Printable ASCII characters and line feeds. -/
def okC (c : Nat) : Prop := (32 ≤ c ∧ c ≤ 126) ∨ c = 10
theorem pch_ok {c : Nat} (h : okC c) (h2 : c ≠ 10) : pch c ∧ c ≠ 10 ∧ isN c := by
  have h1 : 32 ≤ c ∧ c ≤ 126 := h.elim id fun e => absurd e h2
  refine ⟨⟨by omega, ?_⟩, h2, by unfold isN; omega⟩
  have : ∀ c : Fin 127, 32 ≤ c.val → widN c.val = 1 := by decide
  exact this ⟨c, by omega⟩ h1.1
theorem tailJ_map_len (f : List Nat → List Nat) : ∀ Ls : List (List Nat), (Ls.map f).length = Ls.length := fun Ls => by simp
theorem tailJ_lines : ∀ Ls : List (List Nat), Ls.length ≤ (tailJ Ls).length
  | [] => Nat.le_refl _
  | L :: Ls => by have := tailJ_lines Ls; simp only [tailJ, List.length_cons, List.length_append]; omega
/-- What the walk of KillBack wants of a text and two positions. -/
structure BackL (cs : List Nat) (x y : Nat) (cx cy left right : Nat) (p : Nat → Nat) (L : List Nat) (Ls : List (List Nat)) (pre suf : List Nat) : Prop where
  ln : Lines cs pre L Ls suf
  ecx : colN widN cs 8 (lineB cs 1 x) x = cx
  ecy : colN widN cs 8 (lineB cs 1 y) y = cy
  lf : left = min cx cy
  rt : right = max cx cy
  rl : right ≤ cs.length
  ls : Ls.length ≤ cs.length
  lL : left ≤ L.length
  e0 : p 0 = lineB cs 1 (min x y)
  pM : p Ls.length = lineB cs 1 (max x y)
  pn : ∀ j, j < Ls.length → p j ≠ p Ls.length
  ps : ∀ j, j < Ls.length → (linesF cs 1 (cs.length + 1) 1 (p j)).1 = p (j + 1)
  pl : ∀ j, j ≤ Ls.length → 1 ≤ p j ∧ p j ≤ cs.length + 1
  pp : p 0 = pre.length + 1
  rows : (List.range (Ls.length + 1)).map (fun j => rowAt cs 1 (cs.length + 1) 8 left right (p j)) = rowsZ left right pre L Ls
  ok : ∀ K ∈ L :: Ls, ∀ c ∈ K, pch c ∧ c ≠ 10 ∧ isN c
theorem mem_tailJ {K : List Nat} {c : Nat} (hc : c ∈ K) : ∀ {Ls : List (List Nat)}, K ∈ Ls → c ∈ tailJ Ls
  | [], h => by simp at h
  | L :: Ls, h => by
    unfold tailJ
    rcases List.mem_cons.1 h with rfl | h
    · exact List.mem_cons_of_mem _ (List.mem_append_left _ hc)
    · exact List.mem_cons_of_mem _ (List.mem_append_right _ (mem_tailJ hc h))
theorem Zip.at_col {cs pre L suf : List Nat} (hz : Zip cs pre L suf) (tab : Nat) (hp : ∀ c ∈ L, pch c) {x : Nat} (h1 : pre.length + 1 ≤ x) (h2 : x ≤ pre.length + 1 + L.length) : lineB cs 1 x = pre.length + 1 ∧ colN widN cs tab (lineB cs 1 x) x = x - (pre.length + 1) := by
  obtain ⟨d, rfl⟩ : ∃ d, x = pre.length + 1 + d := ⟨x - (pre.length + 1), by omega⟩
  rw [hz.b d (by omega), hz.col tab hp d (by omega)]
  exact ⟨rfl, by omega⟩
theorem backL {cs : List Nat} (hok : ∀ c ∈ cs, okC c) (x y : Nat) (hx1 : 1 ≤ x) (hx2 : x ≤ cs.length + 1) (hy1 : 1 ≤ y) (hy2 : y ≤ cs.length + 1) :
    ∃ cx cy left right p L Ls pre suf, BackL cs x y cx cy left right p L Ls pre suf := by
  obtain ⟨pre, L, Ls, suf, preM, LM, hl, hz, ⟨h1, h2⟩, h3, h4⟩ := lines_of cs (min x y) (max x y) (by omega) (by omega) (by omega)
  have hK : ∀ K ∈ L :: Ls, ∀ c ∈ K, pch c ∧ c ≠ 10 ∧ isN c := fun K hK c hc => pch_ok (hok c (by
    rw [hl.eq]
    rcases List.mem_cons.1 hK with rfl | hK
    · exact List.mem_append_right _ (List.mem_append_left _ hc)
    · exact List.mem_append_right _ (List.mem_append_right _ (List.mem_append_left _ (mem_tailJ hc hK))))) (hl.nl K hK c hc)
  have hKM : ∀ c ∈ LM, pch c := fun c hc => (pch_ok (hok c (by
    rw [hz.z.eq]; exact List.mem_append_right _ (List.mem_append_left _ hc))) (hz.z.nl c hc)).1
  have a1 := hl.zip.at_col 8 (fun c hc => (hK L (List.mem_cons_self ..) c hc).1) h1 h2
  have a2 := hz.z.at_col 8 hKM h3 h4
  have hll := hl.zip.len
  have hzl := hz.z.len
  have htl := tailJ_lines Ls
  simp only [List.length_append] at hll
  have hlm : max (colN widN cs 8 (lineB cs 1 x) x) (colN widN cs 8 (lineB cs 1 y) y) ≤ cs.length ∧ min (colN widN cs 8 (lineB cs 1 x) x) (colN widN cs 8 (lineB cs 1 y) y) ≤ L.length := by
    rcases Nat.le_total x y with h | h
    · rw [Nat.min_eq_left h] at a1 h2; rw [Nat.max_eq_right h] at a2 h4
      rw [a1.2, a2.2]; omega
    · rw [Nat.min_eq_right h] at a1 h2; rw [Nat.max_eq_left h] at a2 h4
      rw [a1.2, a2.2]; omega
  refine ⟨_, _, _, _, posZ pre L Ls, L, Ls, pre, suf, hl, rfl, rfl, rfl, rfl, hlm.1, by omega, hlm.2, by rw [a1.1, posZ_zero], by rw [hz.p, a2.1], hl.pos_ne, hl.pos_next, fun j hj => ⟨by have := (hl.pos_le _ j hj).1; omega, (hl.pos_le _ j hj).2⟩, posZ_zero _ _ _, ?_, hK⟩
  exact Lines.rows Ls hl 8 _ _ (by omega) (fun K h c hc => (hK K h c hc).1)
end Go.Proofs.YtnbccoelbfgmgaaGreatDoor
/- copyistlaw25.bare: the walk. -/
namespace Go.Proofs.YtnbccoelbfgmgaaGreatDoor
open Go.RowKit Go.Lib
set_option linter.unusedVariables false
set_option linter.unusedSimpArgs false
theorem drop_byte (s : ByteArray) (k : Nat) (h : k < s.size) : s.data.toList.drop k = s[k] :: s.data.toList.drop (k + 1) := by
  have h' : k < s.data.toList.length := by simpa using h
  rw [List.drop_eq_getElem_cons h']
  rfl
theorem one_byte (s : ByteArray) (k : Nat) (h : k < s.size) : (s.extract k (k + 1)).data.toList = [s[k]] := by
  have e : (s.extract k (k + 1)).data.toList = (s.data.toList.drop k).take 1 := by
    rw [ByteArray.data_extract, Array.toList_extract, List.extract_eq_take_drop]; simp
  rw [e, drop_byte s k h]; rfl
theorem app_list (a b : ByteArray) : (a ++ b).data.toList = a.data.toList ++ b.data.toList := by rw [ByteArray.data_append, Array.toList_append]
theorem u8_int (u : UInt8) (n : Nat) (hn : n < 256) : (u.toNat : Int) = n ↔ u = UInt8.ofNat n := by
  constructor
  · intro h
    have : u.toNat = n := by omega
    rw [← this]; simp
  · intro h; rw [h, UInt8.toNat_ofNat']; omega
set_option maxRecDepth 100000 in
set_option maxHeartbeats 2000000 in
theorem bare_ok (s : ByteArray) (hs : s.size ≤ 300000) (w : World) : Calls Tryz.prog 31 #[.string s] w fun e w' => e = .returned (.string (bareB s)) ∧ w = w' := by
  go_enter Tryz.func31, Tryz.ntmps31
  go_wp2_with fail
  go_loopw [3, 4, 5] (fun va vb vc wr => ∃ (o g : ByteArray) (k : Nat), k ≤ s.size ∧ va = .string o ∧ vb = .string g ∧ vc = .int .i64 k ∧ bareG o.data.toList g.data.toList (s.data.toList.drop k) = bareG [] [] s.data.toList ∧ o.size + g.size ≤ k ∧ w = wr) (fun _ _ vc _ => int2 vc (.int .i64 s.size))
  case atStart => exact ⟨⟨#[]⟩, ⟨#[]⟩, 0, Nat.zero_le _, rfl, rfl, rfl, rfl, by simp [ByteArray.size], rfl⟩
  case round =>
    obtain ⟨o, g, k, hk, rfl, rfl, rfl, hg, hz, rfl⟩ := hrel
    have HG := Lib.hid hg
    clear hg
    by_cases hlt : k < s.size
    · have d1 : decide ((k : Int) < (s.size : Int)) = true := decide_eq_true (by omega)
      have d2 : (k < s.size) = True := eq_true hlt
      have s1 : IntKind.i64.wrap ((k : Int) + 1) = ((k + 1 : Nat) : Int) := by rw [IntWalk.i64_in _ (by omega)]; omega
      have hdb := drop_byte s k hlt
      have hob := one_byte s k hlt
      have hz1 : o.size ≤ 300000 := by omega
      have hz2 : g.size ≤ 300000 := by omega
      obtain ⟨u, hu⟩ : ∃ u, u = s[k] := ⟨_, rfl⟩
      rw [← hu] at hdb hob
      have HD := Lib.hid (show bareG o.data.toList g.data.toList (u :: s.data.toList.drop (k + 1)) = bareG [] [] s.data.toList by rw [← hdb]; exact HG.out)
      have HOB := Lib.hid hob
      have HU := Lib.hid hu
      have HZ := Lib.hid hz
      clear hdb hob hu hz HG
      by_cases h32 : u = 32
      · have e1 : ((s[k].toNat : Int) == 32) = true := by rw [← HU.out, h32]; rfl
        have e2 : (s[k].toNat = 32) = True := eq_true (by rw [← HU.out, h32]; rfl)
        have e3 : (s[k].toNat == 32) = true := by rw [← HU.out, h32]; rfl
        go_wp2_with fail
        all_goals (try (exfalso; omega))
        go_roundw
        case rel =>
          refine ⟨o, g ++ (⟨#[32]⟩ : ByteArray), k + 1, by omega, rfl, rfl, rfl, ?_, by rw [ByteArray.size_append]; have := HZ.out; show o.size + (g.size + 1) ≤ k + 1; omega, trivial⟩
          rw [app_list, ← HD.out, h32]; rfl
        case measure => simp [int2]; omega
      · have e1 : ((s[k].toNat : Int) == 32) = false := by
          rw [← HU.out]; simp; exact fun h => h32 ((u8_int u 32 (by omega)).1 (by omega))
        have e2 : (s[k].toNat = 32) = False := eq_false (by rw [← HU.out]; exact fun h => h32 ((u8_int u 32 (by omega)).1 (by omega)))
        have e3 : (s[k].toNat == 32) = false := by
          rw [← HU.out]; simp; exact fun h => h32 ((u8_int u 32 (by omega)).1 (by omega))
        by_cases h10 : u = 10
        · have f1 : ((s[k].toNat : Int) == 10) = true := by rw [← HU.out, h10]; rfl
          have f2 : (s[k].toNat = 10) = True := eq_true (by rw [← HU.out, h10]; rfl)
          have f3 : (s[k].toNat == 10) = true := by rw [← HU.out, h10]; rfl
          go_wp2_with fail
          all_goals (try (exfalso; omega))
          go_roundw
          case rel =>
            refine ⟨o ++ (⟨#[10]⟩ : ByteArray), ⟨#[]⟩, k + 1, by omega, rfl, rfl, rfl, ?_, by rw [ByteArray.size_append]; have := HZ.out; show o.size + 1 + 0 ≤ k + 1; omega, trivial⟩
            rw [app_list, ← HD.out, h10]; rfl
          case measure => simp [int2]; omega
        · have f1 : ((s[k].toNat : Int) == 10) = false := by
            rw [← HU.out]; simp; exact fun h => h10 ((u8_int u 10 (by omega)).1 (by omega))
          have f2 : (s[k].toNat = 10) = False := eq_false (by rw [← HU.out]; exact fun h => h10 ((u8_int u 10 (by omega)).1 (by omega)))
          have f3 : (s[k].toNat == 10) = false := by
            rw [← HU.out]; simp; exact fun h => h10 ((u8_int u 10 (by omega)).1 (by omega))
          have hx1 : (s.extract k (k + 1)).size = 1 := by rw [ByteArray.size_extract]; omega
          have hx2 : (o ++ g).size ≤ 600000 := by rw [ByteArray.size_append]; omega
          go_wp2_with fail
          all_goals (try (exfalso; omega))
          go_roundw
          case rel =>
            refine ⟨o ++ g ++ s.extract k (k + 1), ⟨#[]⟩, k + 1, by omega, rfl, rfl, rfl, ?_, by rw [ByteArray.size_append, ByteArray.size_append, hx1]; have := HZ.out; show o.size + g.size + 1 + 0 ≤ k + 1; omega, trivial⟩
            rw [app_list, app_list, HOB.out, ← HD.out]
            show _ = (if u = 32 then _ else if u = 10 then _ else bareG (o.data.toList ++ g.data.toList ++ [u]) [] _)
            rw [if_neg h32, if_neg h10]
          case measure => simp [int2]; omega
    · obtain rfl : k = s.size := by omega
      have d1 : decide ((s.size : Int) < (s.size : Int)) = false := decide_eq_false (by omega)
      go_wp2_with fail
      go_ret
      have e9 : bareB s = o := by
        refine bytes_ext ?_
        have := HG.out
        rw [List.drop_of_length_le (by simp)] at this
        unfold bareB
        rw [← this]; simp [bareG]
      rw [e9]
      exact ⟨rfl, rfl⟩
end Go.Proofs.YtnbccoelbfgmgaaGreatDoor
/- A range over a function whose body turns old memory and may leave by a return: the law and the iterator's contract. -/
namespace Go.Proofs.YtnbccoelbfgmgaaGreatDoor
open Go.RowKit Go.Shelf
set_option linter.unusedVariables false
/-- What a round keeps: whatever lies below n and is not in S. -/
def KpOut (S : Nat → Prop) (n : Nat) (A C : World) : Prop := (∀ k, k < n → ¬ S k → C.heap[k]? = A.heap[k]?) ∧ A.heap.size ≤ C.heap.size
theorem KpOut.refl (S : Nat → Prop) (n : Nat) (A : World) : KpOut S n A A := ⟨fun _ _ _ => rfl, Nat.le_refl _⟩
theorem KpOut.trans {S : Nat → Prop} {n : Nat} {X Y Z : World} (h : KpOut S n X Y) (k : KpOut S n Y Z) : KpOut S n X Z := ⟨fun i hi hs => (k.1 i hi hs).trans (h.1 i hi hs), Nat.le_trans h.2 k.2⟩
theorem KpOut.put {S : Nat → Prop} {n l : Nat} {W : World} {o : Obj} (h : n ≤ l) : KpOut S n W (W.putObj l o) := ⟨fun k hk _ => World.putObj_heap_other (by omega), Nat.le_of_eq World.putObj_size.symm⟩
theorem KpOut.only {S : Nat → Prop} {n : Nat} {A C : World} {Z : Nat → Prop} (h : Only Z A C) (hn : n ≤ A.heap.size) (hz : ∀ k, k < n → Z k → S k) : KpOut S n A C := ⟨fun k hk hs => h.block k (by omega) (fun e => hs (hz k hk e)), h.size⟩
theorem KpOut.below {S : Nat → Prop} {n : Nat} {W W' : World} (hb : Below W.heap.size W W') (h : n ≤ W.heap.size) : KpOut S n W W' := .only (Z := fun _ => False) (.of_below hb) h (fun _ _ e => e.elim)
/-- An iterator that hands on the elements of L and writes nothing. -/
def SeqOut {α : Type} (F : Fence) (n : Nat) (P : Program) (gf : Nat) (lb : Array Value) (encs : α → Array Value) (L : List α) (Kp : World → World → Prop) (w : World) : Prop :=
  ∀ (l : Nat) (J Jx : List α → World → Prop) (W : World), Kp w W →
    (∀ pre x W1, J pre W1 → pre ++ [x] <+: L → YieldAt F (n - 1) P l (encs x) W1 fun e W' => (e = .returned (.bool true) ∧ J (pre ++ [x]) W' ∧ Kp W1 W') ∨ (e = .returned (.bool false) ∧ Jx (pre ++ [x]) W')) →
    J [] W → CallsIn F n P gf (#[.func (.yield l) #[] #[]] ++ lb) W fun e W' => (∃ v, e = .returned v) ∧ (J L W' ∨ ∃ pre, pre <+: L ∧ Jx pre W')
/-- How a round may be left. -/
def outPost {α : Type} (n : Nat) (Kp : World → World → Prop) (I Ix : List α → World → Prop) (xs : List α) (W : World) : Exit → Act → World → Prop
  | .normal, _, W' => (W'.heap[n]? = W.heap[n]? ∧ W'.heap[n + 1]? = W.heap[n + 1]?) ∧ Kp W W' ∧ I xs W'
  | .ret, _, W' => (W'.heap[n]? = W.heap[n]? ∧ W'.heap[n + 1]? = W.heap[n + 1]?) ∧ Ix xs W'
  | _, _, _ => False
/-- The law's own two blocks. -/
def two (n : Nat) : Nat → Prop := fun k => k = n ∨ k = n + 1
theorem Only.putTwo {n l : Nat} {W : World} {o : Obj} (h : l = n ∨ l = n + 1) : Only (two n) W (W.putObj l o) := .of_grown (grownBy_putObj' W l o) h
variable {F : Fence} {n : Nat} {P : Program}
theorem wpIn_range_out {α : Type} {g : Operand} {ps : Array Tmp} {assign body : Code} {Q : Exit → Act → World → Prop} {a : Act} {w : World}
    (hro : F.round = none) (h1 : 1 ≤ n) {gf : Nat} {lb : Array Value} (hg : a.eval g = .func (.func gf) #[] lb) (hFg : F.fn gf) (eg : ∀ args w, (callFunc gf args).run P w = .ok (.enter gf args) w)
    {encs : α → Array Value} {L : List α} {Kp : World → World → Prop} (hseq : SeqOut F (n - 1) P gf lb encs L Kp w) (hKt : ∀ {A B C : World}, Kp A B → Kp B C → Kp A C) (hKb : ∀ (W : World) (l : Nat) (o : Obj), w.heap.size ≤ l → Kp W (W.putObj l o)) (hKa : Kp w w) (hKn : ∀ (W W' : World), w.heap.size ≤ W.heap.size → Below W.heap.size W W' → Kp W W')
    (hps : ∀ x, (encs x).size = ps.size)
    (I Ix : List α → World → Prop) (hI : ∀ pre W W', I pre W → Only (two w.heap.size) W W' → I pre W') (hIx : ∀ pre W W', Ix pre W → Only (two w.heap.size) W W' → Ix pre W') (hIb : ∀ pre W W', I pre W → Below W.heap.size W W' → I pre W') (h0 : I [] w) (V : α → Nat → World → Prop) (hV : ∀ x v W W', V x v W → W'.heap[v]? = W.heap[v]? → V x v W') (a₁ : α → Nat → Act)
    (hassign : ∀ (l : Nat) (x : α) (v : Nat) (W : World) (K : Act → World → Prop), v = W.heap.size → (∀ W', Below W.heap.size W W' → V x v W' → K (a₁ x v) W') →
      assign.wpIn (F.inRound l) (n - 1 - 1) P (Exit.then K (fun _ _ _ => False)) { tmps := (ps.zip (encs x)).foldl (fun t (p, v) => t.setIfInBounds p v) a.tmps, defers := [] } W)
    (hbody : ∀ (l : Nat) (pre : List α) (x : α) (v : Nat) (W : World), I pre W → V x v W → pre ++ [x] <+: L → w.heap.size + 2 ≤ v → w.heap.size + 2 ≤ W.heap.size → body.wpIn (F.inRound l) (n - 1 - 1) P (outPost w.heap.size Kp I Ix (pre ++ [x]) W) (a₁ x v) W)
    (hdone : ∀ (D : Nat) (W : World), D = w.heap.size → I L W → W.heap[D]? = some (.deferred (some [])) → Q .normal { a with defers := { target := .collected D, args := #[] } :: a.defers } W)
    (hstop : ∀ (D : Nat) (pre : List α) (W : World), D = w.heap.size → pre <+: L → Ix pre W → W.heap[D]? = some (.deferred (some [])) → Code.ret.wpIn F n P Q { a with defers := { target := .collected D, args := #[] } :: a.defers } W) :
    (Code.rangeFunc g ps assign body).wpIn F n P Q a w := by
  refine wpIn_rangeFunc fun fn hfn => ?_
  rw [hro]
  let R : LoopState → Option Code → Loop := fun st pe => { state := st, pending := pe, fn, tmps := a.tmps, params := ps, assign, body, defers := w.heap.size }
  let W1 := (w.alloc (.deferred (some []))).alloc (.loop (R .ready none))
  have hrec : W1.heap[w.heap.size + 1]? = some (.loop (R .ready none)) := by
    have := World.alloc_heap_new (w.alloc (.deferred (some []))) (.loop (R .ready none)); rwa [World.size_alloc] at this
  have hdef : W1.heap[w.heap.size]? = some (.deferred (some [])) := (Below.heap_alloc _ _ _ (by simp)).trans (World.alloc_heap_new w _)
  have hsz : W1.heap.size = w.heap.size + 1 + 1 := by show ((w.alloc _).alloc _).heap.size = _; rw [World.size_alloc, World.size_alloc]
  have hkw : Kp w W1 := hKn w W1 (Nat.le_refl _) (up2 (below1 _ _) (below1 _ _))
  have hon : Only (two w.heap.size) w W1 := (Only.alloc (Only.alloc (Only.refl _ w) _) _)
  refine ⟨w.heap.size + 1, [{ target := .collected w.heap.size, args := #[] }], W1, { target := .fn (.func gf) lb, args := #[.func (.yield (w.heap.size + 1)) #[] #[]] }, W1, gf,
    #[.func (.yield (w.heap.size + 1)) #[] #[]] ++ lb, W1, run_enterLoop_outer _ _ _ _ _, ?_, ?_, ?_, fun _ => h1, ?_⟩
  · simp only [resolve, hg]; simp [go_sem]
  · intro f' hf'; simp [Target.leads] at hf'; subst hf'; exact hFg
  · simp [invoke, go_sem, eg]
  let J : List α → World → Prop := fun pre W => I pre W ∧ W.heap[w.heap.size + 1]? = some (.loop (R .ready none)) ∧ W.heap[w.heap.size]? = some (.deferred (some []))
  let Jx : List α → World → Prop := fun pre W => Ix pre W ∧ W.heap[w.heap.size + 1]? = some (.loop (R .done (some .ret))) ∧ W.heap[w.heap.size]? = some (.deferred (some []))
  refine (hseq (w.heap.size + 1) J Jx W1 hkw ?_ ⟨hI _ _ _ h0 hon, hrec, hdef⟩).mono ?_
  · rintro pre x W ⟨hi, hl, hk⟩ hpre
    have hlt : w.heap.size + 1 < W.heap.size := (Array.getElem?_eq_some_iff.1 hl).1
    refine ⟨fn, _, assign, body, run_yield hl (hps x), roundIn_of_wpIn hfn (hassign _ x W.heap.size W _ rfl fun W' hbel hv => ?_)⟩
    have hl' : W'.heap[w.heap.size + 1]? = some (.loop (R .ready none)) := (hbel.block _ hlt).trans hl
    have hk' : W'.heap[w.heap.size]? = some (.deferred (some [])) := (hbel.block _ (by omega)).trans hk
    have hlt' : w.heap.size + 1 < W'.heap.size := (Array.getElem?_eq_some_iff.1 hl').1
    refine ⟨_, run_beginRound hl' rfl, ?_⟩
    have hl2 : (W'.putObj (w.heap.size + 1) (.loop (R .busy none))).heap[w.heap.size + 1]? = some (.loop (R .busy none)) := World.putObj_heap_same hlt'
    have hk2 : (W'.putObj (w.heap.size + 1) (.loop (R .busy none))).heap[w.heap.size]? = some (.deferred (some [])) := (World.putObj_heap_other (by omega)).trans hk'
    have hKp1 : Kp W (W'.putObj (w.heap.size + 1) (.loop (R .busy none))) := hKt (hKn _ _ (by omega) hbel) (hKb _ _ _ (by omega))
    refine wpIn_mono (hbody _ pre x W.heap.size _ (hI _ _ _ (hIb _ _ _ hi hbel) (Only.putTwo (.inr rfl))) (hV _ _ _ _ hv (World.putObj_heap_other (by omega))) hpre (by omega) (by rw [World.putObj_size]; omega)) ?_
    rintro e a3 W3 hp
    cases e with
    | normal =>
      obtain ⟨⟨hs1, hs2⟩, hkp, hi3⟩ := hp
      have hl3 := hs2.trans hl2
      have hd3 := hs1.trans hk2
      refine ⟨_, _, run_endRound (P := P) none hl3, .inl ⟨rfl, ⟨hI _ _ _ hi3 (Only.putTwo (.inr rfl)), World.putObj_heap_same (Array.getElem?_eq_some_iff.1 hl3).1, (World.putObj_heap_other (by omega)).trans hd3⟩, ?_⟩⟩
      exact hKt (hKt hKp1 hkp) (hKb _ _ _ (by omega))
    | ret =>
      obtain ⟨⟨hs1, hs2⟩, hi3⟩ := hp
      have hl3 := hs2.trans hl2
      have hd3 := hs1.trans hk2
      exact ⟨_, _, run_endRound (P := P) (some .ret) hl3, .inr ⟨rfl, hIx _ _ _ hi3 (Only.putTwo (.inr rfl)), World.putObj_heap_same (Array.getElem?_eq_some_iff.1 hl3).1, (World.putObj_heap_other (by omega)).trans hd3⟩⟩
    | exit id => exact hp.elim
    | goto t => exact hp.elim
    | panic ch => exact hp.elim
    | outgrown => exact hp.elim
  · rintro e W2 ⟨⟨v, rfl⟩, (⟨hi, hl, hk⟩ | ⟨pre, hpre, hi, hl, hk⟩)⟩
    · exact ⟨none, _, run_endLoop (P := P) hl (by simp [R]), hdone _ _ rfl (hI _ _ _ hi (Only.putTwo (.inr rfl))) ((World.putObj_heap_other (by omega)).trans hk)⟩
    · exact ⟨some .ret, _, run_endLoop (P := P) hl (by simp [R]), hstop _ pre _ rfl hpre (hIx _ _ _ hi (Only.putTwo (.inr rfl))) ((World.putObj_heap_other (by omega)).trans hk)⟩
end Go.Proofs.YtnbccoelbfgmgaaGreatDoor
/- slices.Backward at rows: its iterator; kill.erase. -/
namespace Go.Proofs.YtnbccoelbfgmgaaGreatDoor
open Go.RowKit Go.Shelf Go.Lib
set_option linter.unusedVariables false
set_option linter.unusedSimpArgs false
section
attribute [local go_sem] Oper.semAt_some
/-- The first k rows from the back, with their indexes. -/
def backTo (L : List Row3) (k : Nat) : List (Nat × Row3) := (List.range k).map fun j => (L.length - 1 - j, L.getD (L.length - 1 - j) (0, 0, 0))
theorem backTo_succ (L : List Row3) (k : Nat) : backTo L (k + 1) = backTo L k ++ [(L.length - 1 - k, L.getD (L.length - 1 - k) (0, 0, 0))] := by
  simp [backTo, List.range_succ]
theorem backTo_prefix (L : List Row3) (k m : Nat) (h : k ≤ m) : backTo L k <+: backTo L m := by
  induction m with
  | zero => obtain rfl : k = 0 := by omega
            exact List.prefix_refl _
  | succ m ih =>
    by_cases e : k = m + 1
    · subst e; exact List.prefix_refl _
    · exact (ih (by omega)).trans (by rw [backTo_succ]; exact List.prefix_append _ _)
theorem backTo_length (L : List Row3) (k : Nat) : (backTo L k).length = k := by simp [backTo]
abbrev encBR (x : Nat × Row3) : Array Value := #[.int .i64 x.1, .agg #[.int .i64 x.2.1, .int .i64 x.2.2.1, .int .i64 x.2.2.2]]
set_option maxRecDepth 100000 in
set_option maxHeartbeats 2000000 in
theorem back_seq (n Bs : Nat) (L : List Row3) (A : Option Addr) (c : Nat) (hl : L.length ≤ 1000000) (Kp : World → World → Prop) (w : World) (hKt : ∀ {A B C : World}, Kp A B → Kp B C → Kp A C)
    (hc : ∀ W, Kp w W → W.cell? ⟨Bs, 0, none⟩ = some (.slice A L.length c)) (hps : ∀ W, Kp w W → RSl encRow W A L) :
    SeqOut Fence.wide n Tryz.prog 134 #[.pointer (some ⟨Bs, 0, none⟩)] encBR (backTo L L.length) Kp w := by
  intro l J Jx W hW hY h0
  have HPS := Lib.hid hps
  have HC := Lib.hid hc
  clear hps hc
  refine callsIn_of_wp Tryz.func134 rfl trivial ?_ rfl
  simp only [Tryz.ntmps134, List.size_toArray, List.length_cons, List.length_nil, Nat.reduceAdd, Nat.reduceSub, Array.replicate_succ, Array.replicate_zero, List.push_toArray, List.append_toArray, List.nil_append, List.cons_append]
  have c0 := HC.out W hW
  gi_wp2
  gi_loopw [3] (fun i wr => ∃ k : Nat, k ≤ L.length ∧ i = .int .i64 ((L.length : Int) - 1 - k) ∧ J (backTo L k) wr ∧ Kp w wr) (fun i _ => ((intOf i) + 1).toNat)
  case atStart => exact ⟨0, Nat.zero_le _, by simp, h0, hW⟩
  case round =>
    obtain ⟨k, hk, rfl, hJs, hnx⟩ := hrel
    clear c0
    by_cases hlt : k < L.length
    · have d0 := HC.out wr hnx
      obtain ⟨m, hm⟩ : ∃ m : Nat, L.length - 1 - k = m := ⟨_, rfl⟩
      have hmi : (L.length : Int) - 1 - k = (m : Int) := by omega
      rw [hmi]
      obtain ⟨z, hz⟩ : ∃ z, L[m]? = some z := ⟨_, List.getElem?_eq_getElem (by omega)⟩
      obtain ⟨g, o, rfl, hg, hcg⟩ := (HPS.out wr hnx).at_ eltRow hz
      have k0 := hcg 0 _ rfl
      have k1 := hcg 1 _ rfl
      have k2 := hcg 2 _ rfl
      simp only [Nat.add_zero] at k0
      rw [← Nat.add_assoc] at k1 k2
      have hsuc : backTo L (k + 1) = backTo L k ++ [(m, z)] := by
        rw [backTo_succ, hm, List.getD_eq_getElem?_getD, hz]; rfl
      have HP := Lib.hid (backTo_prefix L (k + 1) L.length hlt)
      have HSU := Lib.hid hsuc
      have hmlt : (m : Int) < L.length := by omega
      have hm0 : (0 : Int) ≤ m := by omega
      have HM := Lib.hid hm
      have HMI := Lib.hid hmi
      have hYk := hY (backTo L k) (m, z) wr hJs (by rw [← HSU.out]; exact HP.out)
      obtain ⟨z0, z1, z2⟩ := z
      clear hsuc hm hmi hz hcg hY
      have hd : decide ((0 : Int) ≤ (m : Int)) = true := decide_eq_true hm0
      obtain ⟨fn, tmps, assign, body, hy, hR⟩ := hYk
      dsimp only [encBR] at hy
      gi_wp2_with fail
      refine ⟨(fun h => by cases h), hR.mono ?_⟩
      clear hR hy
      rintro e w4 (⟨rfl, hJ4, hk4⟩ | ⟨rfl, hJx4⟩)
      · rw [← HSU.out] at hJ4
        gi_wp2
        go_roundw
        case rel => exact ⟨k + 1, by omega, by have := HMI.out; go_num, hJ4, hKt hnx hk4⟩
        case measure => simp [intOf]
      · gi_wp2
        refine bodyPost_ret (results_none rfl _ _ _) rfl ?_
        refine ⟨⟨_, rfl⟩, .inr ⟨_, ?_, hJx4⟩⟩
        rw [← HSU.out]
        exact HP.out
    · obtain rfl : k = L.length := by omega
      have hneg : (L.length : Int) - 1 - L.length = -1 := by omega
      rw [hneg]
      gi_wp2
      go_end0
      exact ⟨⟨_, rfl⟩, .inl hJs⟩
end
end Go.Proofs.YtnbccoelbfgmgaaGreatDoor
/- slices.Clone at a text's characters and at its line feeds; gap.Copy. -/
namespace Go.Proofs.YtnbccoelbfgmgaaGreatDoor
open Go.RowKit Go.Lib
set_option linter.unusedVariables false
set_option linter.unusedSimpArgs false
section
variable {w w' : World} {t g : Nat} {B Xt : List Int}
/-- append([]rune{}, B...) in exact memory. -/
theorem appR (h : Blk w g 21 (rowR (B ++ Xt))) (hl : B.length ≤ 1000000) (c : Nat) :
    ∃ g' X' w', (∀ ty, (Builtin.append_ #[162, 162] ty #[.slice (some ⟨w.heap.size, 0, none⟩) 0 0, .slice (some ⟨g, 0, none⟩) B.length c]).run Tryz.prog (w.alloc (.cells #[] 21)) = .ok (.slice (some ⟨g', 0, none⟩) B.length (B.length + X'.length)) w') ∧
      w.heap.size ≤ g' ∧ Blk w' g' 21 (rowR (B ++ X')) ∧ Below w.heap.size w w' := by
  obtain ⟨i, hi, hsz, hby, hz⟩ : ∃ i, Tryz.prog.info? 21 = some i ∧ i.size = 1 ∧ i.bytes = 4 ∧ i.zero = some (.int .i32 0) := ⟨(Tryz.prog.info? 21).get (by kernel_rfl), (Option.some_get _).symm, by kernel_rfl, by kernel_rfl, by kernel_rfl⟩
  rcases Nat.eq_zero_or_pos B.length with h0 | h0
  · obtain rfl := List.eq_nil_of_length_eq_zero h0
    refine ⟨w.heap.size, [], w.alloc (.cells #[] 21), fun ty => ?_, Nat.le_refl _, (MapKept.heap_alloc w _).1, below1 w _⟩
    have hf := run_firstCells_some (P := Tryz.prog) (w.alloc (.cells #[] 21)) i.size 0 ⟨g, 0, none⟩ 0 c [] (by simp) (by simp)
    simp [Builtin.append_, run_underlying Tryz.underlying162, sizeOf, typeInfo, hi, Builtin.lenOf, hf, storeCells]
  · have hb := below1 w (.cells #[] 21)
    have hg := h.up hb
    have hr := fun ty => run_append_grow (P := Tryz.prog) (w.alloc (.cells #[] 21)) 162 ty 21 i (.int .i32 0) Tryz.underlying162 hi hz ⟨w.heap.size, 0, none⟩ 0 0 [] (by simp) (by simp) ⟨g, 0, none⟩ B.length c (B.map encR) (by rw [hsz]; simp)
      (fun j v hj => by
        rw [Addr.add_lit]
        refine hg.cell ?_
        rw [List.getElem?_map] at hj
        have hj2 : j < B.length := by
          rcases Nat.lt_or_ge j B.length with h1 | h1
          · exact h1
          · rw [List.getElem?_eq_none h1] at hj; cases hj
        show ((B ++ Xt).map encR).toArray[0 + j]? = _
        rw [Nat.zero_add, List.getElem?_toArray, List.getElem?_map, List.getElem?_append_left hj2]
        exact hj) (by omega) (by omega) (growslice_fits (by omega) (by rw [hby]; omega))
    have hge := grownCap_ge (w.alloc (.cells #[] 21)) (0 + B.length) 0 21
    generalize grownCap (w.alloc (.cells #[] 21)) (0 + B.length) 0 21 = C at hge hr
    have hsz2 : (w.alloc (.cells #[] 21)).heap.size = w.heap.size + 1 := by simp
    rw [hsz2] at hr
    have hcs : ([] : List Value).toArray ++ (B.map encR).toArray ++ Builtin.zeroCells (Value.int .i32 0).cells (C - (0 + B.length)) = rowR (B ++ List.replicate (C - B.length) 0) := by
      apply Array.ext
      · simp [Builtin.zeroCells, Value.cells]
      · intro j h1 h2
        have hz0 : ∀ (k : Nat) (hk : k < (Builtin.zeroCells (Value.int .i32 0).cells (C - (0 + B.length))).size), (Builtin.zeroCells (Value.int .i32 0).cells (C - (0 + B.length)))[k] = .int .i32 0 := fun k hk => by
          simp [Builtin.zeroCells, Value.cells, Nat.mod_one]
        by_cases hj : j < B.length
        · rw [Array.getElem_append_left (by simpa using hj)]
          simp [List.getElem_append_left, hj]
        · rw [Array.getElem_append_right (by simpa using hj), hz0]
          simp only [List.getElem_toArray, List.map_append, List.map_replicate]
          rw [List.getElem_append_right (by simpa using hj)]
          simp
    rw [hcs] at hr
    refine ⟨w.heap.size + 1, List.replicate (C - B.length) 0, (w.alloc (.cells #[] 21)).drew.alloc (.cells (rowR (B ++ List.replicate (C - B.length) 0)) 21), fun ty => ?_, by omega, ?_, (hb.drew).alloc (by simp) _⟩
    · have := hr ty
      rw [show 0 + B.length = B.length by omega] at this
      rw [this, List.length_replicate, show B.length + (C - B.length) = C by omega]
    · have := (MapKept.heap_alloc (w.alloc (.cells #[] 21)).drew (.cells (rowR (B ++ List.replicate (C - B.length) 0)) 21)).1
      have e : (w.alloc (.cells #[] 21)).drew.heap.size = w.heap.size + 1 := by simp
      rw [e] at this
      exact this
set_option maxHeartbeats 1000000 in
theorem cloneR (h : Blk w g 21 (rowR (B ++ Xt))) (hl : B.length ≤ 1000000) (c : Nat) : Calls Tryz.prog 136 #[.slice (some ⟨g, 0, none⟩) B.length c] w fun r w' => ∃ g' X', r = .returned (.slice (some ⟨g', 0, none⟩) B.length (B.length + X'.length)) ∧ w.heap.size ≤ g' ∧ Blk w' g' 21 (rowR (B ++ X')) ∧ Below w.heap.size w w' := by
  obtain ⟨g', X', w', happ, hg', hB, hb⟩ := appR h hl c
  have HP := Lib.hid happ
  have HB := Lib.hid (⟨hB, hb⟩ : _ ∧ _)
  have hnil := fun w => Lib.run_eql_slice_nil (P := Tryz.prog) w 162 21 (some ⟨g, 0, none⟩) B.length c 0 0 Tryz.underlying162
  clear happ h hB hb
  obtain ⟨cp, hcp⟩ : ∃ c, B.length + X'.length = c := ⟨_, rfl⟩
  obtain ⟨n, hn⟩ : ∃ n, B.length = n := ⟨_, rfl⟩
  have HE := Lib.hid hcp
  have HF := Lib.hid hn
  rw [hcp, hn] at HP
  rw [hn] at hnil
  suffices H : Calls Tryz.prog 136 #[.slice (some ⟨g, 0, none⟩) n c] w fun r w' => ∃ g' X', r = .returned (.slice (some ⟨g', 0, none⟩) B.length (B.length + X'.length)) ∧ w.heap.size ≤ g' ∧ Blk w' g' 21 (rowR (B ++ X')) ∧ Below w.heap.size w w' by rw [hn] at H ⊢; exact H
  clear hcp hn hl
  go_enter Tryz.func136, Tryz.ntmps136
  go_wp2_with (at_builtin; refine wpList_app_run (v := .slice (some ⟨w.heap.size, 0, none⟩) 0 0) (u := .slice (some ⟨g, 0, none⟩) n c) rfl _ _ _ rfl rfl rfl HP.out ?_)
  go_ret
  exact ⟨g', X', by rw [HE.out, HF.out]; rfl, hg', HB.out.1, HB.out.2⟩
set_option maxRecDepth 100000 in
set_option maxHeartbeats 1000000 in
theorem cloneI {A : Option Addr} {zs : List Int} (h : RSl encI w A zs) (c : Nat) (hl : zs.length ≤ 1000000) : Calls Tryz.prog 137 #[.slice A zs.length c] w fun r w' => ∃ v, r = .returned v ∧ ROwn encI 3 1 w.heap.size w' v zs ∧ Below w.heap.size w w' := by
  have h0 := ROwn.empty (enc := encI) (E := 3) (k := 1) w.heap.size w (Nat.le_refl _)
  obtain ⟨v', w', happ, hown', hg, _⟩ := append_run eltI h0 (by simp) (h.up (below1 _ _)) c (by simp; omega) (by omega)
  have HP := Lib.hid happ
  clear happ
  rcases A with _ | a
  · have hL : zs = [] := by
      rcases Nat.eq_zero_or_pos zs.length with h1 | h1
      · exact List.eq_nil_of_length_eq_zero h1
      · obtain ⟨g, o, e, _⟩ := h h1; cases e
    subst hL
    have hnil := fun w => Lib.run_eql_slice_nil (P := Tryz.prog) w 53 3 none 0 c 0 0 Tryz.underlying53
    go_enter Tryz.func137, Tryz.ntmps137
    go_wp2_with fail
    go_ret
    exact ⟨_, rfl, ROwn.nil _ _, Below.refl _ _⟩
  · have hnil := fun w => Lib.run_eql_slice_nil (P := Tryz.prog) w 53 3 (some a) zs.length c 0 0 Tryz.underlying53
    go_enter Tryz.func137, Tryz.ntmps137
    go_wp2_with (at_builtin; refine wpList_app_run rfl _ _ _ rfl rfl rfl HP.out ?_)
    go_ret
    exact ⟨_, rfl, by simpa using hown', (below1 _ _).grown hg (by simp) (fun k hk => h0.base hk)⟩
/-- A copy of a text: all of it in new blocks. -/
def GapCp (w : World) (B : List Int) (st en : Nat) (cs : List Nat) (e : Ending) (w' : World) : Prop :=
  ∃ t' g' fv', e = .returned (pAt t') ∧ Below w.heap.size w w' ∧ GapX w' t' g' fv' B st en cs ∧ ∀ k, gapFoot t' g' fv' k → w.heap.size ≤ k
end
section
variable {w w' : World} {t g st en : Nat} {fv : Value} {B : List Int} {cs : List Nat}
set_option maxRecDepth 100000 in
set_option maxHeartbeats 2000000 in
theorem gcopy_ok (h : GapX w t g fv B st en cs) : Calls Tryz.prog 90 #[pAt t] w (GapCp w B st en cs) := by
  have H := Lib.hid h
  have hN := gnone1 h.gw
  have HN := Lib.hid hN
  obtain ⟨Xt, hv⟩ := h.gw
  obtain ⟨A, cp, rfl, hc1, hc2, hrs⟩ := h.own.shape eltI
  have HR := Lib.hid hrs
  have HV := Lib.hid hv
  have hcp := hv.blk.cell (j := 0) rfl
  have c0 : ∀ X : UpW w.heap.size w, X.w.cell? ⟨t, 0, none⟩ = some (.slice (some ⟨g, 0, none⟩) B.length (B.length + Xt.length)) := fun X => cell_up (hv.blk.cell (j := 0) rfl) X.up
  have c1 : ∀ X : UpW w.heap.size w, X.w.cell? ⟨t, 1, none⟩ = some (.int .i64 st) := fun X => cell_up (hv.blk.cell (j := 1) rfl) X.up
  have c2 : ∀ X : UpW w.heap.size w, X.w.cell? ⟨t, 2, none⟩ = some (.int .i64 en) := fun X => cell_up (hv.blk.cell (j := 2) rfl) X.up
  have c3 : ∀ X : UpW w.heap.size w, X.w.cell? ⟨t, 3, none⟩ = some (.slice A (feeds cs).length cp) := fun X => cell_up (hv.blk.cell (j := 3) rfl) X.up
  have HL := Lib.hid (show B.length ≤ 1000000 by have := hv.lim; omega)
  have HFL := Lib.hid (show (feeds cs).length ≤ 1000000 by have := feedsF_len cs 1; have := h.le; unfold feeds; omega)
  obtain ⟨cq, hcq⟩ : ∃ c, c = B.length + Xt.length := ⟨_, rfl⟩
  rw [← hcq] at c0
  have hCR := fun (w' : World) (hb : Below w.heap.size w w') => cloneR (hv.buf.up hb) HL.out cq
  have hCI := fun (w' : World) (hb : Below w.heap.size w w') => cloneI (hrs.up hb) cp HFL.out
  clear h hN hv hrs hcp hcq
  obtain ⟨nf, hnf⟩ : ∃ n, n = (feeds cs).length := ⟨_, rfl⟩
  rw [← hnf] at c3 hc1 hCI
  obtain ⟨nb, hnb⟩ : ∃ n, n = B.length := ⟨_, rfl⟩
  rw [← hnb] at c0 hCR
  have HQ := Lib.hid (⟨hnf, hnb⟩ : _ ∧ _)
  have HCR := Lib.hid hCR
  have HCI := Lib.hid hCI
  clear hnf hnb hCR hCI
  go_enter Tryz.func90, Tryz.ntmps90
  go_wp2_with fail
  refine HN.out.mono ?_
  rintro e w' ⟨rfl, rfl⟩
  go_wp2_with fail
  refine wp_region_mix w.heap.size 21 [([0, 1, 2, 3, 5, 6, 7, 8, 9, 10, 11, 12, 13, 14, 15, 16], 4), ([], 17), ([18], 19)] [20] (by kernel_rfl) (fun c d v a w h => by cases d <;> exact h) (by kernel_rfl) ?_
  simp only [wpMix, pk_nil, pk_cons, pushAt_zero, pushAt_succ, List.drop_succ_cons, List.drop_zero]
  repeat (go_big_quiet_step (fail))
  refine wpQuiet_nil ?_
  go_wp2_with fail
  refine (HCR.out _ (Below.refl _ w).drew).mono ?_
  rintro e w1 ⟨g1, X1, rfl, hg1, hB1, hb1⟩
  have B1 := Lib.hid (show Below w.heap.size w w1 from (Below.refl _ w).drew.trans hb1)
  have G1 := Lib.hid hB1
  have HG1 := Lib.hid hg1
  clear hb1 hB1 hg1 HCR
  go_wp2_with fail
  refine thenQ_normal ⟨⟨⟨_, B1.out⟩, rfl⟩, ?_⟩
  refine wpQuiet_nil ?_
  go_wp2_with fail
  refine (HCI.out _ B1.out).mono ?_
  rintro e w2 ⟨v2, rfl, ho2, hb2⟩
  have B2 := Lib.hid (up2 B1.out hb2)
  have hz1 : w.heap.size ≤ w1.heap.size := B1.out.size
  have G2 := Lib.hid (Blk.up G1.out hb2)
  have hg1l := G2.out.lt
  have hg1m := HG1.out
  have ho2' := ho2.low (Nat.zero_le _)
  obtain ⟨A2, cp2, rfl, _, _, _⟩ := ho2.shape eltI
  have O2 := Lib.hid ho2'
  have hlt2 := fun k hk => ho2'.lt (g := k) hk
  have HLT := Lib.hid hlt2
  have HBS := Lib.hid (fun k hk => (by have := ho2.base (g := k) hk; have := G1.out.lt; omega : k ≠ g1 ∧ w.heap.size ≤ k))
  clear hb2 ho2 ho2' hlt2 HCI B1 G1
  go_wp2_with fail
  refine thenQ_normal ⟨⟨⟨_, B2.out⟩, rfl⟩, ?_⟩
  repeat (go_big_quiet_step (fail))
  refine wpQuiet_nil ?_
  go_wp2_with fail
  refine thenQ_normal ⟨⟨⟨_, up2 B2.out (below1 _ _)⟩, rfl⟩, ?_⟩
  repeat (go_big_quiet_step (fail))
  refine wpQuiet_nil ?_
  go_wp2_with fail
  go_ret
  obtain ⟨hnf, hnb⟩ := HQ.out
  refine ⟨w2.heap.size, g1, _, rfl, up2 B2.out (below1 w2 _), ⟨⟨X1, ?_, G2.out.up (below1 w2 _), by omega, HV.out.lim, HV.out.h1, HV.out.h2⟩, O2.out.up (below1 w2 _), fun k hk => ⟨by have := HLT.out k hk; omega, (HBS.out k hk).1⟩, H.out.txt, H.out.cn, H.out.le⟩, fun k hk => ?_⟩
  · rw [← hnb]; exact Blk.made w2 _ _
  · rcases hk with rfl | rfl | hk
    · exact B2.out.size
    · exact hg1m
    · exact (HBS.out k hk).2
end
end Go.Proofs.YtnbccoelbfgmgaaGreatDoor
/- buffer.Copy's parts at a plain buffer: no marks, no properties, no overlays, nothing saved. -/
namespace Go.Proofs.YtnbccoelbfgmgaaGreatDoor
open Go.RowKit Go.Shelf
set_option linter.unusedVariables false
set_option linter.unusedSimpArgs false
section
variable {w w' : World} {m mm p o : Nat}
set_option maxHeartbeats 1000000 in
theorem cloneP0 (c : Nat) (w : World) : Calls Tryz.prog 141 #[.slice none 0 c] w fun e w' => e = .returned (.slice none 0 0) ∧ w = w' := by
  have hnil := fun w => Lib.run_eql_slice_nil (P := Tryz.prog) w 181 211 none 0 c 0 0 Tryz.underlying181
  go_enter Tryz.func141, Tryz.ntmps141
  go_wp2_with fail
  go_ret
  exact ⟨rfl, rfl⟩
set_option maxHeartbeats 1000000 in
theorem cloneX0 (c : Nat) (w : World) : Calls Tryz.prog 95 #[.slice none 0 c] w fun e w' => e = .returned (.slice none 0 0) ∧ w = w' := by
  have hnil := fun w => Lib.run_eql_slice_nil (P := Tryz.prog) w 101 152 none 0 c 0 0 Tryz.underlying101
  go_enter Tryz.func95, Tryz.ntmps95
  go_wp2_with fail
  go_ret
  exact ⟨rfl, rfl⟩
set_option maxHeartbeats 1000000 in
theorem pcopy0 (h : Blk w p 183 prC) : Calls Tryz.prog 92 #[pAt p] w fun e w' => ∃ q, e = .returned (pAt q) ∧ w.heap.size ≤ q ∧ Blk w' q 183 prC ∧ Below w.heap.size w w' := by
  have HN := Lib.hid (pnone0 h)
  have c0 := h.cell (j := 0) rfl
  clear h
  go_enter Tryz.func92, Tryz.ntmps92
  go_wp2_with fail
  refine HN.out.mono ?_
  rintro e w' ⟨rfl, rfl⟩
  go_wp2_with fail
  refine (cloneP0 0 _).mono ?_
  rintro e w' ⟨rfl, rfl⟩
  go_wp2_with fail
  go_ret
  exact ⟨w.heap.size, rfl, Nat.le_refl _, Blk.made w _ _, below1 w _⟩
set_option maxHeartbeats 2000000 in
theorem ocopy0 (x y : Int) (h : Blk w o 186 (ovC x y)) : Calls Tryz.prog 93 #[pAt o] w fun e w' => ∃ q, e = .returned (pAt q) ∧ w.heap.size ≤ q ∧ Blk w' q 186 (ovC x y) ∧ Below w.heap.size w w' := by
  have HV := Lib.hid (ovalid0 x y h)
  have c0 := h.cell (j := 0) rfl
  have c1 := h.cell (j := 1) rfl
  have c2 := h.cell (j := 2) rfl
  have c3 := h.cell (j := 3) rfl
  have c4 := h.cell (j := 4) rfl
  have hl := h.lt
  clear h
  go_enter Tryz.func93, Tryz.ntmps93
  go_wp2_with fail
  refine HV.out.mono ?_
  rintro e w' ⟨rfl, rfl⟩
  go_wp2_with fail
  have hb := below1 w (.cells (ovC x y) 186)
  have hn := Blk.made w 186 (ovC x y)
  have HB := Lib.hid hb
  have HN := Lib.hid hn
  clear hb hn c0 c1 c2 c3 c4 hl HV
  generalize w.alloc (.cells (ovC x y) 186) = W at *
  go_loopw [19] (fun va wr => va = .int .i64 0 ∧ W = wr) (fun _ _ => 0)
  case atStart => exact ⟨rfl, rfl⟩
  case round =>
    obtain ⟨rfl, rfl⟩ := hrel
    go_wp2_with fail
    go_ret
    exact ⟨w.heap.size, rfl, Nat.le_refl _, HN.out, HB.out⟩
set_option maxRecDepth 100000 in
set_option maxHeartbeats 2000000 in
/-- A copy of no marks. -/
theorem mcopy0 (h : Mk0 w m mm) : Calls Tryz.prog 91 #[pAt m] w fun e w' => ∃ m' mm', e = .returned (pAt m') ∧ w.heap.size ≤ m' ∧ w.heap.size ≤ mm' ∧ m' ≠ mm' ∧ Mk0 w' m' mm' ∧ Below w.heap.size w w' := by
  obtain ⟨l, clock, him, he⟩ := h.im
  obtain rfl : l = [] := List.map_eq_nil_iff.1 he
  have hblk := him.block
  have hblt := h.blk.lt
  have HM := Lib.hid (mmade0 h)
  have c0 := h.blk.cell (j := 0) rfl
  have c1 := h.blk.cell (j := 1) rfl
  have HI := Lib.hid him
  obtain ⟨es, hes⟩ : ∃ es : Array MapEntry, es = (([] : List ((Int × Unit) × Nat)).map (entOf encU)).toArray := ⟨_, rfl⟩
  have HCL : ∀ W : World, W.heap[mm]? = some (.map es clock) → Calls Tryz.prog 139 #[.map (some mm)] W fun e w' => e = .returned (.map (some W.heap.size)) ∧ w' = W.alloc (.map es clock) := fun W hb => AnyW.maps_Clone Tryz.cloneA mm es clock W hb
  rw [← hes] at hblk
  have HB := Lib.hid hblk
  have HES := Lib.hid hes
  clear h him hblk he hes
  go_enter Tryz.func91, Tryz.ntmps91
  go_wp2_with fail
  refine HM.out.mono ?_
  rintro e w' ⟨rfl, rfl⟩
  go_wp2_with fail
  go_region_with (go_at_call 139; refine (HCL _ (by exact HB.out)).mono ?_; rintro e w' ⟨rfl, rfl⟩)
  all_goals
    go_wp2_with fail
    go_ret
    have h1 := MapKept.heap_alloc w (.map es clock)
    have h2 := MapKept.heap_alloc (w.alloc (.map es clock)) (.cells #[.map (some w.heap.size), .int .i64 0] 180)
    have hsz : (w.alloc (.map es clock)).heap.size = w.heap.size + 1 := by simp
    rw [hsz] at h2
    refine ⟨w.heap.size + 1, w.heap.size, rfl, by omega, Nat.le_refl _, by omega, ⟨h2.1, [], clock, ⟨?_, HI.out.keys, HI.out.borns, HI.out.old⟩, rfl⟩, ?_⟩
    · rw [← HES.out]; exact (h2.2 _ (by omega)).trans h1.1
    · have hB := ((Below.refl w.heap.size w).alloc (Nat.le_refl _) (.map es clock)).alloc (by simp) (.cells #[.map (some w.heap.size), .int .i64 0] 180)
      exact ⟨hB.os, hB.tape, hB.output, hB.size, hB.block⟩
end
end Go.Proofs.YtnbccoelbfgmgaaGreatDoor
/- undo.Log.Copy at any log. -/
namespace Go.Proofs.YtnbccoelbfgmgaaGreatDoor
open Go.RowKit Go.Lib
set_option linter.unusedVariables false
set_option linter.unusedSimpArgs false
section
variable {w w' w1 w3 : World} {l : Nat} {gv gv3 ov : Value} {vs : List Sl3} {G : List (List Chg)} {O g : List Chg} {ch co nw : Int} {x : Sl3}
/-- A new group's row laid behind the others. -/
theorem LogX.push (h : LogX w l gv ov vs G O ch co nw) (hb1 : Below w.heap.size w w1) (hx : ROwn encCg 119 9 w.heap.size w1 (sl3 x) g) (hg : 0 < g.length)
    (hown : ROwn encG 113 1 0 w3 gv3 (vs ++ [x])) (ho3 : Only (fun k => gv.ownBlock = some k) w1 w3) (hblk : gv3.ownBlock = gv.ownBlock ∨ ∃ q, gv3.ownBlock = some q ∧ w1.heap.size ≤ q) :
    LogX (w3.setCell ⟨l, 1, none⟩ gv3) l gv3 ov (vs ++ [x]) (G ++ [g]) O ch co nw ∧ Only (logFoot l gv ov vs) w (w3.setCell ⟨l, 1, none⟩ gv3) ∧ ∀ k, logFoot l gv3 ov (vs ++ [x]) k → logFoot l gv ov vs k ∨ w.heap.size ≤ k := by
  have hz := hb1.size
  have hll := h.blk.lt
  have hon : Only (fun k => gv.ownBlock = some k) w w3 := (Only.of_below hb1).trans ho3
  have hnew : ∀ k, gv3.ownBlock = some k → k ≠ l ∧ (gv.ownBlock = some k ∨ w1.heap.size ≤ k) := fun k hk => by
    rcases hblk with e | ⟨q, e, hq⟩
    · rw [e] at hk; exact ⟨h.s2 k hk, .inl hk⟩
    · rw [e] at hk; cases hk; exact ⟨by omega, .inr hq⟩
  have hS : ∀ k, k ≠ l → (w3.setCell ⟨l, 1, none⟩ gv3).heap[k]? = w3.heap[k]? := fun k hk => Below.heap_setCell _ ⟨l, 1, none⟩ _ _ hk
  have hkW : ∀ k, k < w.heap.size → k ≠ l → gv.ownBlock ≠ some k → (w3.setCell ⟨l, 1, none⟩ gv3).heap[k]? = w.heap[k]? := fun k h1 h2 h3 => (hS k h2).trans (hon.block k h1 h3)
  have hxb : ∀ k, (sl3 x).ownBlock = some k → w.heap.size ≤ k ∧ k < w1.heap.size := fun k hk => ⟨hx.base hk, hx.lt hk⟩
  have h3 : Blk w3 l 173 _ := h.blk.only hon (fun hk => h.s2 l hk rfl)
  refine ⟨⟨h3.set (j := 1) (by simp) gv3, hown.kept (fun k e => hS k (hnew k e).1), by simp [h.len], fun i y g' h1 h2 => ?_, h.op.kept (fun k e => hkW k (h.op.lt e) (h.s1 k e).1 (h.s1 k e).2), h.nil, fun k hk => ⟨(h.s1 k hk).1, fun e => ?_⟩, fun k hk => (hnew k hk).1, fun y hy k hk => ?_⟩, (hon.mono (fun k hk => .inr (.inl hk))).setCell (p := ⟨l, 1, none⟩) (.inl rfl) _, fun k hk => ?_⟩
  · rw [List.getElem?_append] at h1 h2
    rw [h.len] at h1
    split at h1
    · rename_i hi
      rw [if_pos hi] at h2
      have hx := List.mem_of_getElem? h1
      exact ⟨(h.rows i y g' h1 h2).1.kept (fun k e => hkW k ((h.rows i y g' h1 h2).1.lt e) (h.s3 y hx k e).1 (h.s3 y hx k e).2.1), (h.rows i y g' h1 h2).2⟩
    · rename_i hi
      rw [if_neg hi] at h2
      have e0 : i - G.length = 0 := by
        have := (List.getElem?_eq_some_iff.1 h1).1; simp at this; omega
      rw [e0] at h1 h2
      simp only [List.getElem?_cons_zero, Option.some.injEq] at h1 h2
      subst h1 h2
      exact ⟨(hx.low (Nat.zero_le _)).kept (fun k e => (hS k (by have := hxb k e; omega)).trans (ho3.block k (hxb k e).2 (fun e2 => by have := h.gr.lt e2; have := hxb k e; omega))), hg⟩
  · rcases (hnew k e).2 with q | q
    · exact (h.s1 k hk).2 q
    · have := h.op.lt hk; omega
  · have hy2 : (y ∈ vs ∨ y = x) := by simpa using hy
    rcases hy2 with hy2 | rfl
    · refine ⟨(h.s3 y hy2 k hk).1, fun e => ?_, (h.s3 y hy2 k hk).2.2⟩
      rcases (hnew k e).2 with q | q
      · exact (h.s3 y hy2 k hk).2.1 q
      · have := h.foot_lt (.inr (.inr (.inr ⟨y, hy2, hk⟩))); omega
    · have hk1 := hxb k hk
      refine ⟨by omega, fun e => ?_, fun e => by have := h.op.lt e; omega⟩
      rcases (hnew k e).2 with q | q
      · have := h.gr.lt q; omega
      · omega
  · rcases hk with rfl | hk | hk | ⟨y, hy, hk⟩
    · exact .inl (.inl rfl)
    · rcases (hnew k hk).2 with q | q
      · exact .inl (.inr (.inl q))
      · exact .inr (by omega)
    · exact .inl (.inr (.inr (.inl hk)))
    · have hy2 : (y ∈ vs ∨ y = x) := by simpa using hy
      rcases hy2 with hy2 | rfl
      · exact .inl (.inr (.inr (.inr ⟨y, hy2, hk⟩)))
      · exact .inr (hxb k hk).1
set_option maxHeartbeats 1000000 in
theorem cloneCgN (w : World) : Calls Tryz.prog 118 #[.slice none 0 0] w fun r w' => r = .returned (.slice none 0 0) ∧ w = w' := by
  have hnil := fun w => Lib.run_eql_slice_nil (P := Tryz.prog) w 113 119 none 0 0 0 0 Tryz.underlying113
  go_enter Tryz.func118, Tryz.ntmps118
  go_wp2_with fail
  go_ret
  exact ⟨rfl, rfl⟩
/-- Clone of the open group: nil stays nil. -/
theorem cloneO {B : Nat} {v : Value} (h : ROwn encCg 119 9 B w v O) (h0 : O = [] → v = .slice none 0 0) (hl : O.length ≤ 1000000) : Calls Tryz.prog 118 #[v] w fun r w' => ∃ v', r = .returned v' ∧ ROwn encCg 119 9 w.heap.size w' v' O ∧ Below w.heap.size w w' ∧ (O = [] → v' = .slice none 0 0) := by
  by_cases hO : O = []
  · subst hO
    rw [h0 rfl]
    exact (cloneCgN w).mono fun e w' ⟨he, hw⟩ => ⟨_, he, ROwn.nil _ _, hw ▸ Below.refl _ _, fun _ => rfl⟩
  · obtain ⟨A, cap, rfl, _, _, hr⟩ := h.shape eltCg
    exact (cloneCg hr cap hl).mono fun e w' ⟨v', he, ho, hb⟩ => ⟨v', he, ho, hb, fun e => absurd e hO⟩
/-- The copy so far: its first groups. -/
def LgCp (w : World) (G : List (List Chg)) (O : List Chg) (ch co nw : Int) (l' : Nat) (wr : World) : Prop :=
  ∃ gv ov vs, LogX wr l' gv ov vs G O ch co nw ∧ (∀ k, logFoot l' gv ov vs k → w.heap.size ≤ k) ∧ Below w.heap.size w wr
end
end Go.Proofs.YtnbccoelbfgmgaaGreatDoor
