/- A part. -/
import Derived.Test.YtkpoodjhjfmfjaaGreatDoorZ01
import Derived.Test.YtkpoodjhjfmfjaaGreatDoorZ00
import Derived.Test.YtkpoodjhjfmfjaaGreatDoorLayU
import Derived.Laws.StructEq
import Derived.Test.YtkpoodjhjfmfjaaGreatDoorLayW
import Derived.Deep.RegionWith
set_option linter.unusedVariables false
set_option linter.unusedSimpArgs false
namespace Go.Proofs.YtkpoodjhjfmfjaaGreatDoor.Mks
open Go.RowKit
abbrev Mk:=Int × Bool
abbrev encM (x:Mk):Value:=.agg #[.int .i64 x.1,.bool x.2]
theorem mapT:Tryz.prog.underlying 160=some (.map 3 164):=Tryz.underlying160
theorem keyT:Tryz.prog.underlying 3=some (.int .i64):=Tryz.underlying3
theorem zeroMk (w:World):(zeroValue 164).run Tryz.prog w=.ok (encM (0,false)) w:=by kernel_rfl
theorem neqMap (w:World) (r:Option Nat):(binOp .neq 160 (.map r) (.map none)).run Tryz.prog w=.ok (.bool (!r.isNone)) w:=run_neq_map_nil w _ _ _ r mapT
theorem fieldMk0 (x:Mk) (w:World):(Instr.field 164 (encM x) 0).run Tryz.prog w=.ok (.int .i64 x.1) w:=by kernel_rfl
theorem fieldMk1 (x:Mk) (w:World):(Instr.field 164 (encM x) 1).run Tryz.prog w=.ok (.bool x.2) w:=by kernel_rfl
structure MarksAt (w:World) (b bm:Nat) (m:List (Int × Mk)) (n:Int):Prop where
 c0:w.cell? ⟨b,0,none⟩=some (.map (some bm))
 c1:w.cell? ⟨b,1,none⟩=some (.int .i64 n)
 f1:w.frozen? ⟨b,1,none⟩=false
 im:IM w bm encM m
 ids:∀ p ∈ m,0<=p.1/\p.1<n
 ats:∀ p ∈ m,1<=p.2.1/\p.2.1<=1099511627776
theorem MarksAt.lt {w:World} {b bm:Nat} {m:List (Int × Mk)} {n:Int} (h:MarksAt w b bm m n):b<w.heap.size:=lt_of_cell h.c0
theorem MarksAt.ne {w:World} {b bm:Nat} {m:List (Int × Mk)} {n:Int} (h:MarksAt w b bm m n):b≠bm:=by
 obtain⟨l,clock,h1,_⟩:=h.im
 intro e
 have:=h.c0
 simp[World.cell?,e,h1.block] at this
theorem MarksAt.kept {w w':World} {b bm:Nat} {m:List (Int × Mk)} {n:Int} (h:MarksAt w b bm m n) (hb:w'.heap[b]?=w.heap[b]?) (hm:w'.heap[bm]?=w.heap[bm]?):MarksAt w' b bm m n:=
 ⟨(World.cell?_of_block (w:=w) (a:=⟨b,0,none⟩) hb).trans h.c0,(World.cell?_of_block (w:=w) (a:=⟨b,1,none⟩) hb).trans h.c1,(World.frozen?_of_block (w:=w) (a:=⟨b,1,none⟩) hb).trans h.f1,h.im.kept hm,h.ids,h.ats⟩
theorem MarksAt.below {w w':World} {b bm B:Nat} {m:List (Int × Mk)} {n:Int} (h:MarksAt w b bm m n) (hb:Below B w w') (h1:b<B) (h2:bm<B):MarksAt w' b bm m n:=h.kept (hb.block b h1) (hb.block bm h2)
theorem MarksAt.up {w w':World} {b bm:Nat} {m:List (Int × Mk)} {n:Int} (h:MarksAt w b bm m n) (hb:Below w.heap.size w w'):MarksAt w' b bm m n:=h.below hb h.lt h.im.lt
def placeI (at_:Int):Bool:=decide (1<=at_) && decide (at_<=1099511627776)
theorem placeI_true {a:Int} (h:placeI a=true):1<=a/\a<=1099511627776:=by simpa [placeI] using h
set_option maxHeartbeats 400000 in
theorem place_any (a:Int) (w:World):Calls Tryz.prog 142 #[.int .i64 a] w fun e w'=>e=.returned (.bool (placeI a))/\w=w':=by
 go_enter Tryz.func142,Tryz.ntmps142
 go_wp2
 all_goals (go_ret;exact⟨ret_bool (Bool.eq_iff_iff.2 (by simp[placeI]<;>omega)),rfl⟩)
variable {b bm : Nat} {m : List (Int × Mk)} {n : Int} {w : World}
set_option maxHeartbeats 400000 in
theorem made_any (h:MarksAt w b bm m n):Calls Tryz.prog 141 #[.pointer (some ⟨b,0,none⟩)] w fun e w'=>e=.returned (.bool true)/\w=w':=by
 have c0:=h.c0
 have hn:=neqMap w
 go_enter Tryz.func141,Tryz.ntmps141
 go_wp2
 go_ret
 exact⟨rfl,rfl⟩
set_option maxHeartbeats 400000 in
theorem new_any (w:World):Calls Tryz.prog 136 #[] w fun e w'=>e=.returned (.pointer (some ⟨w.heap.size+1,0,none⟩))/\MarksAt w' (w.heap.size+1) w.heap.size [] 0/\Below w.heap.size w w'/\w'.heap.size=w.heap.size+2:=by
 have hmm:=@run_makeMap Tryz.prog
 go_enter Tryz.func136,Tryz.ntmps136
 go_wp2
 go_ret
 refine⟨rfl,⟨?_,?_,?_,?_,by simp,by simp⟩,(below1 w _).alloc (by simp) _,by simp⟩
 ·have:=MapKept.heap_alloc (w.alloc (.map #[] 0)) (.cells #[.map (some w.heap.size),.int .i64 0] 162)
  simp only[World.size_alloc] at this
  simp only[World.cell?,this.1];rfl
 ·have:=MapKept.heap_alloc (w.alloc (.map #[] 0)) (.cells #[.map (some w.heap.size),.int .i64 0] 162)
  simp only[World.size_alloc] at this
  simp only[World.cell?,this.1];rfl
 ·have:=MapKept.heap_alloc (w.alloc (.map #[] 0)) (.cells #[.map (some w.heap.size),.int .i64 0] 162)
  simp only[World.size_alloc] at this
  simp only[World.frozen?,this.1];rfl
 ·exact(IM.made w encM).below ((Below.refl (w.heap.size+1) _).alloc (by simp) _) (by omega)
set_option maxHeartbeats 400000 in
theorem known_yes (h:MarksAt w b bm m n) {id:Int} {x:Mk} (hx:lookM m id=some x):Calls Tryz.prog 159 #[.pointer (some ⟨b,0,none⟩),.int .i64 id] w fun e w'=>e=.returned (.int .i64 0)/\Below w.heap.size w w':=by
 have c0:=h.c0
 have hl:=h.im.look_some mapT keyT hx true
 simp only[if_true] at hl
 have hx':=qH hx
 clear hx
 go_enter Tryz.func159,Tryz.ntmps159
 go_wp2_with (go_at_call 141;refine(made_any h).mono ?_;rintro e w' ⟨rfl,rfl⟩)
 go_ret
 exact⟨rfl,below1 w _⟩
set_option maxHeartbeats 400000 in
theorem known_no (h:MarksAt w b bm m n) {id:Int} (hx:lookM m id=none):Calls Tryz.prog 159 #[.pointer (some ⟨b,0,none⟩),.int .i64 id] w fun e w'=>e=.returned (.int .i64 8)/\Below w.heap.size w w':=by
 have c0:=h.c0
 have hl:=h.im.look_none mapT keyT hx true (zeroMk w)
 simp only[if_true] at hl
 have hx':=qH hx
 clear hx
 go_enter Tryz.func159,Tryz.ntmps159
 go_wp2_with (go_at_call 141;refine(made_any h).mono ?_;rintro e w' ⟨rfl,rfl⟩)
 go_ret
 exact⟨rfl,below1 w _⟩
set_option maxHeartbeats 400000 in
theorem at_yes (h:MarksAt w b bm m n) {id:Int} {x:Mk} (hx:lookM m id=some x):Calls Tryz.prog 79 #[.pointer (some ⟨b,0,none⟩),.int .i64 id] w fun e w'=>e=.returned (.tuple #[.int .i64 x.1,.bool true])/\Below w.heap.size w w':=by
 go_enter Tryz.func79,Tryz.ntmps79
 go_wp2_with fail
 refine(known_yes h hx).mono ?_
 rintro e w1 ⟨rfl,hb1⟩
 have h1:=h.up hb1
 have c0:=h1.c0
 have hl:=h1.im.look_some mapT keyT hx false
 simp only[Bool.false_eq_true,if_false] at hl
 have hx':=qH hx
 clear hx
 have fl0:=fieldMk0 x
 have fl1:=fieldMk1 x
 go_wp2
 go_ret2
 exact⟨rfl,hb1⟩
set_option maxHeartbeats 400000 in
theorem at_no (h:MarksAt w b bm m n) {id:Int} (hx:lookM m id=none):Calls Tryz.prog 79 #[.pointer (some ⟨b,0,none⟩),.int .i64 id] w fun e w'=>e=.returned (.tuple #[.int .i64 0,.bool false])/\Below w.heap.size w w':=by
 go_enter Tryz.func79,Tryz.ntmps79
 go_wp2_with fail
 refine(known_no h hx).mono ?_
 rintro e w1 ⟨rfl,hb1⟩
 go_wp2
 go_ret2
 exact⟨rfl,hb1⟩
abbrev Own2 (b bm:Nat):Nat->Prop:=fun k=>k=b\/k=bm
end Go.Proofs.YtkpoodjhjfmfjaaGreatDoor.Mks
namespace Go.Proofs.YtkpoodjhjfmfjaaGreatDoor.Mks
open Go.RowKit
variable {b bm : Nat} {m : List (Int × Mk)} {n : Int} {w : World}
theorem lookM_new {α:Type} {m:List (Int × α)} {n:Int} (h:∀ p ∈ m,0<=p.1/\p.1<n):lookM m n=none:=lookM_none.2 (fun p hp e=>by have:=h p hp;omega)
theorem putM_new {α:Type} {m:List (Int × α)} {n:Int} (h:lookM m n=none) (v:α):putM m n v=m++[(n,v)]:=by unfold putM;rw[h];rfl
set_option maxHeartbeats 400000 in
theorem add_range (h:MarksAt w b bm m n) (a:Int) (adv:Bool) (hp:placeI a=false):Calls Tryz.prog 72 #[.pointer (some ⟨b,0,none⟩),.int .i64 a,.bool adv] w fun e w'=>e=.returned (.tuple #[.int .i64 0,.int .i64 3])/\w=w':=by
 go_enter Tryz.func72,Tryz.ntmps72
 go_wp2_with (first|(go_at_call 141;refine(made_any h).mono ?_;rintro e w' ⟨rfl,rfl⟩)|(go_at_call 142;refine(place_any _ _).mono ?_;rintro e w' ⟨rfl,rfl⟩))
 go_ret2
 exact⟨rfl,rfl⟩
set_option maxHeartbeats 400000 in
theorem add_full (h:MarksAt w b bm m n) (a:Int) (adv:Bool) (hp:placeI a=true) (hl:4096<=m.length):Calls Tryz.prog 72 #[.pointer (some ⟨b,0,none⟩),.int .i64 a,.bool adv] w fun e w'=>e=.returned (.tuple #[.int .i64 0,.int .i64 7])/\w=w':=by
 have c0:=h.c0
 have hs:=fun ty=>h.im.size (P:=Tryz.prog) mapT ty
 have hl':(4096:Int)<=(m.length:Int):=by omega
 clear hl
 go_enter Tryz.func72,Tryz.ntmps72
 go_wp2_with (first|(go_at_call 141;refine(made_any h).mono ?_;rintro e w' ⟨rfl,rfl⟩)|(go_at_call 142;refine(place_any _ _).mono ?_;rintro e w' ⟨rfl,rfl⟩))
 go_ret2
 exact⟨rfl,rfl⟩
set_option maxRecDepth 100000 in
set_option maxHeartbeats 1000000 in
theorem add_ok (h:MarksAt w b bm m n) (a:Int) (adv:Bool) (hp:placeI a=true) (hl:m.length<4096) (hn0:0<=n) (hn1:n<=1000000000):Calls Tryz.prog 72 #[.pointer (some ⟨b,0,none⟩),.int .i64 a,.bool adv] w fun e w'=>
  e=.returned (.tuple #[.int .i64 n,.int .i64 0])/\MarksAt w' b bm (m++[(n,(a,adv))]) (n+1)/\Only (Own2 b bm) w w':=by
 have c0:=h.c0
 have c1:=h.c1
 have hs:=fun ty=>h.im.size (P:=Tryz.prog) mapT ty
 have hl':(m.length:Int)<(4096:Int):=by omega
 have hnone:=lookM_new h.ids
 have HN:=qH hnone
 clear hl hnone
 go_enter Tryz.func72,Tryz.ntmps72
 go_wp2_with (first|(go_at_call 141;refine(made_any h).mono ?_;rintro e w' ⟨rfl,rfl⟩)|(go_at_call 142;refine(place_any _ _).mono ?_;rintro e w' ⟨rfl,rfl⟩))
 have C0:∀ x:UpW w.heap.size w,x.w.cell? ⟨b,0,none⟩=some (.map (some bm)):=fun x=>(x.up.cell (p:=⟨b,0,none⟩) h.lt).trans h.c0
 have C1:∀ x:UpW w.heap.size w,x.w.cell? ⟨b,1,none⟩=some (.int .i64 n):=fun x=>(x.up.cell (p:=⟨b,1,none⟩) h.lt).trans h.c1
 clear c0 c1 hs
 refine wp_region_up_tail w.heap.size 11 (by kernel_rfl) (by kernel_rfl) ?_
 simp only[List.take_succ_cons,List.take_zero,List.drop_succ_cons,List.drop_zero]
 repeat (go_big_quiet_step (fail))
 refine wpQuiet_nil ?_
 rintro ⟨w1,hb1⟩
 dsimp only
 clear C0 C1
 have h1:=h.up hb1
 obtain⟨w2,hrun,him,hgr,hsz⟩:=h1.im.store mapT keyT n (a,adv)
 have hne:=h1.ne
 have hbk:w2.heap[b]?=w1.heap[b]?:=hgr.block b h1.lt (fun e=>hne (by cases e;rfl))
 have d0:=(World.cell?_of_block (w:=w1) (a:=⟨b,0,none⟩) hbk).trans h1.c0
 have d1:=(World.cell?_of_block (w:=w1) (a:=⟨b,1,none⟩) hbk).trans h1.c1
 have d2:=(World.frozen?_of_block (w:=w1) (a:=⟨b,1,none⟩) hbk).trans h1.f1
 rw[putM_new HN.out] at him
 go_wp2
 go_ret2
 refine⟨ret_two (by omega),⟨?_,?_,?_,?_,?_,?_⟩,((Only.of_below hb1).trans (Only.of_grown hgr (.inr rfl))).setCell (p:=⟨b,1,none⟩) (.inl rfl) _⟩
 ·rw[World.cell?_setCell_other _ _ _ _ (by simp)];exact d0
 ·exact World.cell?_setCell_same' _ _ _ (by rw[d1];rfl)
 ·rw[World.frozen?_setCell];exact d2
 ·exact him.kept (Below.heap_setCell _ _ _ _ (fun e=>hne e.symm))
 ·intro p hp
  rcases List.mem_append.1 hp with hp|hp
  ·have:=h.ids p hp;omega
  ·simp at hp;subst hp;simp;omega
 ·intro p hp
  rcases List.mem_append.1 hp with hp|hp
  ·exact h.ats p hp
  ·simp at hp;subst hp;exact placeI_true ‹_›
theorem MarksAt.put {w w1:World} (h:MarksAt w b bm m n) (hgr:w.grownBy w1 (some bm)) {id:Int} {x y:Mk} (hx:lookM m id=some x) (him:IM w1 bm encM (putM m id y)) (hy:1<=y.1/\y.1<=1099511627776):MarksAt w1 b bm (putM m id y) n:=by
 have hne:=h.ne
 have hbk:w1.heap[b]?=w.heap[b]?:=hgr.block b h.lt (fun e=>hne (by cases e;rfl))
 have hk:(putM m id y).map (·.1)=m.map (·.1):=putM_keys_old (by rw[hx];rfl)
 refine⟨(World.cell?_of_block (w:=w) (a:=⟨b,0,none⟩) hbk).trans h.c0,(World.cell?_of_block (w:=w) (a:=⟨b,1,none⟩) hbk).trans h.c1,(World.frozen?_of_block (w:=w) (a:=⟨b,1,none⟩) hbk).trans h.f1,him,?_,?_⟩
 ·intro p hp
  have:p.1 ∈ m.map (·.1):=hk▸List.mem_map.2 ⟨p,hp,rfl⟩
  obtain⟨q,hq,e⟩:=List.mem_map.1 this
  rw[<-e];exact h.ids q hq
 ·intro p hp
  unfold putM at hp
  rw[if_pos (by rw[hx];rfl)] at hp
  obtain⟨q,hq,rfl⟩:=List.mem_map.1 hp
  split
  ·exact hy
  ·exact h.ats q hq
set_option maxHeartbeats 400000 in
theorem move_no (h:MarksAt w b bm m n) {id:Int} (a:Int) (hx:lookM m id=none):Calls Tryz.prog 98 #[.pointer (some ⟨b,0,none⟩),.int .i64 id,.int .i64 a] w fun e w'=>e=.returned (.int .i64 8)/\Below w.heap.size w w':=by
 go_enter Tryz.func98,Tryz.ntmps98
 go_wp2_with fail
 refine(known_no h hx).mono ?_
 rintro e w1 ⟨rfl,hb1⟩
 go_wp2
 go_ret
 exact⟨rfl,hb1⟩
set_option maxHeartbeats 400000 in
theorem move_range (h:MarksAt w b bm m n) {id:Int} {x:Mk} (a:Int) (hx:lookM m id=some x) (hp:placeI a=false):Calls Tryz.prog 98 #[.pointer (some ⟨b,0,none⟩),.int .i64 id,.int .i64 a] w fun e w'=>e=.returned (.int .i64 3)/\Below w.heap.size w w':=by
 go_enter Tryz.func98,Tryz.ntmps98
 go_wp2_with fail
 refine(known_yes h hx).mono ?_
 rintro e w1 ⟨rfl,hb1⟩
 have HX:=qH hx
 clear hx
 go_wp2_with (go_at_call 142;refine(place_any _ _).mono ?_;rintro e w' ⟨rfl,rfl⟩)
 go_ret
 exact⟨rfl,hb1⟩
set_option maxRecDepth 100000 in
set_option maxHeartbeats 1000000 in
theorem move_ok (h:MarksAt w b bm m n) {id:Int} {x:Mk} (a:Int) (hx:lookM m id=some x) (hp:placeI a=true):Calls Tryz.prog 98 #[.pointer (some ⟨b,0,none⟩),.int .i64 id,.int .i64 a] w fun e w'=>e=.returned (.int .i64 0)/\MarksAt w' b bm (putM m id (a,x.2)) n/\Only (Own2 b bm) w w':=by
 go_enter Tryz.func98,Tryz.ntmps98
 go_wp2_with fail
 refine(known_yes h hx).mono ?_
 rintro e w1 ⟨rfl,hb1⟩
 have h1:=h.up hb1
 have HX:=qH hx
 clear hx
 go_wp2_with (go_at_call 142;refine(place_any _ _).mono ?_;rintro e w' ⟨rfl,rfl⟩)
 have C0:∀ x:UpW w1.heap.size w1,x.w.cell? ⟨b,0,none⟩=some (.map (some bm)):=fun x=>(x.up.cell (p:=⟨b,0,none⟩) h1.lt).trans h1.c0
 have C1:∀ y:UpW w1.heap.size w1,(Instr.lookup 160 (.map (some bm)) (.int .i64 id) false).run Tryz.prog y.w=.ok (encM x) y.w:=fun y=>by
  have:=(h1.up y.up).im.look_some mapT keyT HX.out false
  simpa using this
 have fl0:=fieldMk0 x
 have fl1:=fieldMk1 x
 refine wp_region_up_tail w1.heap.size 14 (by kernel_rfl) (by kernel_rfl) ?_
 simp only[List.take_succ_cons,List.take_zero,List.drop_succ_cons,List.drop_zero]
 repeat (go_big_quiet_step (fail))
 refine wpQuiet_nil ?_
 rintro ⟨w2,hb2⟩
 dsimp only
 clear C0 C1 fl0 fl1
 have h2:=h1.up hb2
 obtain⟨w3,hrun,him,hgr,hsz⟩:=h2.im.store mapT keyT id (a,x.2)
 have h3:=h2.put hgr HX.out him (placeI_true hp)
 go_wp2
 go_ret
 exact⟨rfl,h3,((Only.of_below hb1).trans (Only.of_below hb2)).trans (Only.of_grown hgr (.inr rfl))⟩
end Go.Proofs.YtkpoodjhjfmfjaaGreatDoor.Mks
namespace Go.Proofs.YtkpoodjhjfmfjaaGreatDoor.Mks
open Go.RowKit
variable {b bm : Nat} {m : List (Int × Mk)} {n : Int} {w : World}
def delAt (from_ to:Int) (x:Mk):Int:=if to<=x.1 then x.1 -(to - from_) else if from_<x.1 then from_ else x.1
def insAt (a k:Int) (ahead:Bool) (x:Mk):Int:=if a<x.1\/(x.1=a/\(ahead=true\/x.2=true)) then x.1+k else x.1
set_option maxHeartbeats 400000 in
theorem del1_any (bt bf:Nat) (from_ to:Int) (x:Mk) (w:World) (ct:w.cell? ⟨bt,0,none⟩=some (.int .i64 to)) (cf:w.cell? ⟨bf,0,none⟩=some (.int .i64 from_)) (hx:1<=x.1/\x.1<=1099511627776) (hf:1<=from_) (hft:from_<=to) (ht:to<=1099511627776) :
  Calls Tryz.prog 224 #[encM x,.pointer (some ⟨bt,0,none⟩),.pointer (some ⟨bf,0,none⟩)] w fun e w'=>e=.returned (.int .i64 (delAt from_ to x))/\Below w.heap.size w w':=by
 obtain⟨xa,xb⟩:=x
 obtain⟨hx1,hx2⟩:=hx
 dsimp only at hx1 hx2
 have ct':∀ o,(w.alloc o).cell? ⟨bt,0,none⟩=some (.int .i64 to):=fun o=>((below1 w o).cell (p:=⟨bt,0,none⟩) (lt_of_cell ct)).trans ct
 have cf':∀ o,(w.alloc o).cell? ⟨bf,0,none⟩=some (.int .i64 from_):=fun o=>((below1 w o).cell (p:=⟨bf,0,none⟩) (lt_of_cell cf)).trans cf
 clear ct cf
 go_enter Tryz.func224,Tryz.ntmps224
 go_wp2
 all_goals (go_ret;exact⟨ret_int (by simp only[delAt];omega),below1 w _⟩)
set_option maxHeartbeats 400000 in
theorem ins1_any (ba bh bk:Nat) (a k:Int) (ahead:Bool) (x:Mk) (w:World) (ca:w.cell? ⟨ba,0,none⟩=some (.int .i64 a)) (ch:w.cell? ⟨bh,0,none⟩=some (.bool ahead)) (ck:w.cell? ⟨bk,0,none⟩=some (.int .i64 k)) (hx:1<=x.1/\x.1<=1099511627776) (hk0:0<=k) (hk1:k<=65536) :
  Calls Tryz.prog 239 #[encM x,.pointer (some ⟨ba,0,none⟩),.pointer (some ⟨bh,0,none⟩),.pointer (some ⟨bk,0,none⟩)] w fun e w'=>e=.returned (.int .i64 (insAt a k ahead x))/\Below w.heap.size w w':=by
 obtain⟨xa,xb⟩:=x
 obtain⟨hx1,hx2⟩:=hx
 dsimp only at hx1 hx2
 have ca':∀ o,(w.alloc o).cell? ⟨ba,0,none⟩=some (.int .i64 a):=fun o=>((below1 w o).cell (p:=⟨ba,0,none⟩) (lt_of_cell ca)).trans ca
 have ch':∀ o,(w.alloc o).cell? ⟨bh,0,none⟩=some (.bool ahead):=fun o=>((below1 w o).cell (p:=⟨bh,0,none⟩) (lt_of_cell ch)).trans ch
 have ck':∀ o,(w.alloc o).cell? ⟨bk,0,none⟩=some (.int .i64 k):=fun o=>((below1 w o).cell (p:=⟨bk,0,none⟩) (lt_of_cell ck)).trans ck
 clear ca ch ck
 go_enter Tryz.func239,Tryz.ntmps239
 by_cases h1:a<xa
 ·go_wp2
  all_goals (go_ret;exact⟨ret_int (by simp only[insAt];rw[if_pos (.inl h1)]),below1 w _⟩)
 ·by_cases h2:xa=a
  ·subst h2
   cases ahead<;>cases xb
   all_goals
    go_wp2
    all_goals (go_ret;exact⟨ret_int (by simp[insAt]),below1 w _⟩)
  ·have h2':(xa == a)=false:=by simpa using h2
   go_wp2
   all_goals (go_ret;exact⟨ret_int (by simp only[insAt];rw[if_neg (by simp[h2];omega)]),below1 w _⟩)
theorem filter_lt_of_mem {k:Int}:∀ {l:List Int},k ∈ l->(l.filter (· != k)).length<l.length
 | [],h=>by cases h
 | a :: r,h=>by
   by_cases e:a=k
   ·subst e
    simp only[List.filter_cons,bne_self_eq_false,Bool.false_eq_true,if_false,List.length_cons]
    have:=List.length_filter_le (· != a) r
    omega
   ·have hr:k ∈ r:=by
     rcases List.mem_cons.1 h with h|h
     ·exact absurd h.symm e
     ·exact h
    simp only[List.filter_cons]
    rw[if_pos (by simpa using e)]
    have:=filter_lt_of_mem hr
    simp only[List.length_cons];omega
def changed (g:Mk->Int) (m:List (Int × Mk)) (todo:List Int):List (Int × Mk):=m.map (fun p=>if p.1 ∈ todo then p else (p.1,(g p.2,p.2.2)))
theorem changed_all (g:Mk->Int) (m:List (Int × Mk)):changed g m (m.map (·.1))=m:=by
 unfold changed
 conv=>rhs;rw[<-List.map_id m]
 apply List.map_congr_left
 intro p hp
 rw[if_pos (List.mem_map.2 ⟨p,hp,rfl⟩)];rfl
theorem changed_nil (g:Mk->Int) (m:List (Int × Mk)):changed g m []=m.map (fun p=>(p.1,(g p.2,p.2.2))):=by
 unfold changed;simp
theorem changed_look {g:Mk->Int} {m:List (Int × Mk)} {todo:List Int} {k:Int} {v:Mk} (hn:(m.map (·.1)).Nodup) (hk:k ∈ todo) (h:lookM (changed g m todo) k=some v):(k,v) ∈ m:=by
 have:=lookM_mem h
 unfold changed at this
 obtain⟨p,hp,e⟩:=List.mem_map.1 this
 split at e
 ·rw[<-e];exact hp
 ·rename_i hne
  simp only[Prod.mk.injEq] at e
  exact absurd (e.1▸hk) hne
theorem changed_put {g:Mk->Int} {m:List (Int × Mk)} {todo:List Int} {k:Int} {v:Mk} (hn:(m.map (·.1)).Nodup) (hk:k ∈ todo) (hv:(k,v) ∈ m) (h:lookM (changed g m todo) k=some v) :
  putM (changed g m todo) k (g v,v.2)=changed g m (todo.filter (· != k)):=by
 unfold putM
 rw[if_pos (by rw[h];rfl)]
 unfold changed
 rw[List.map_map]
 apply List.map_congr_left
 intro p hp
 simp only[Function.comp]
 by_cases e:p.1=k
 ·have hpv:p=(k,v):=inj_of_nodup hn hp hv e
  rw[hpv]
  simp[hk]
 ·by_cases hp':p.1 ∈ todo
  ·rw[if_pos hp',if_neg (by simpa using e),if_pos (by simp[hp',e])]
  ·rw[if_neg hp',if_neg (by simpa using e),if_neg (by simp[hp'])]
set_option maxRecDepth 100000 in
set_option maxHeartbeats 2000000 in
theorem change_del (bt bf:Nat) (from_ to:Int) (h:MarksAt w b bm m n) (ct:w.cell? ⟨bt,0,none⟩=some (.int .i64 to)) (nct:bt≠bm) (cf:w.cell? ⟨bf,0,none⟩=some (.int .i64 from_)) (ncf:bf≠bm) (hf:1<=from_) (hft:from_<=to) (ht:to<=1099511627776) :
  Calls Tryz.prog 223 #[.pointer (some ⟨b,0,none⟩),.func (.func 224) #[] #[.pointer (some ⟨bt,0,none⟩),.pointer (some ⟨bf,0,none⟩)]] w fun e w'=>
   e=.returned (.tuple #[])/\IM w' bm encM (m.map (fun p=>(p.1,(delAt from_ to p.2,p.2.2))))/\Only (·=bm) w w':=by
 have c0:=h.c0
 have hnd:=h.im.nodup
 have HND:=qH hnd
 clear hnd
 obtain⟨w1,hrange,hir,hb1,hs1⟩:=h.im.range (P:=Tryz.prog) mapT
 go_enter Tryz.func223,Tryz.ntmps223
 go_wp2
 clear hrange
 have hne:=h.ne
 go_loopw [4] (fun _ wr=>∃ todo,IRange wr bm w.heap.size encM (changed (delAt from_ to) m todo) todo/\Only (·=bm) w wr) (fun _ wr=>wr.rangeLeft bm w.heap.size)
 case atStart=>exact⟨m.map (·.1),by rw[changed_all];exact hir,Only.of_below hb1⟩
 case round=>
  clear hir hb1 hs1 w1 c0
  obtain⟨todo,hir,hon⟩:=hrel
  have hbk:wr.heap[b]?=w.heap[b]?:=hon.block b h.lt hne
  have d0:=(World.cell?_of_block (w:=w) (a:=⟨b,0,none⟩) hbk).trans h.c0
  rcases hir.next (P:=Tryz.prog) with ⟨rfl,hnx⟩|⟨k,v,w1,hk,hv,hnx,hir1,hg1,hsz1,hen⟩
  ·go_wp2
   go_end0
   rw[changed_nil] at hir
   exact⟨rfl,hir.im,hon⟩
  ·obtain⟨va,vb⟩:=v
   have HV:=qH hv
   have HK:=qH hk
   clear hv hk
   have hmem:(k,(va,vb)) ∈ m:=changed_look HND.out HK.out HV.out
   have hat:=h.ats _ hmem
   have HM:=qH hmem
   clear hmem
   have hlt1:w.heap.size<w1.heap.size:=by have:=hir.lt;omega
   have hbm1:bm<w1.heap.size:=hir1.im.lt
   have hblt:b<w1.heap.size:=by have:=h.lt;omega
   have hrb:b≠w.heap.size:=by have:=h.lt;omega
   go_wp2
   obtain⟨W2,hW2⟩:∃ W2,w1.alloc (.cells #[.int .i64 va,.bool vb] 164)=W2:=⟨_,rfl⟩
   have hal:=MapKept.heap_alloc w1 (.cells #[.int .i64 va,.bool vb] 164)
   rw[hsz1] at hal
   have x0:W2.cell? ⟨wr.heap.size,0,none⟩=some (.int .i64 va):=by rw[<-hW2];simp only[World.cell?,hal.1];rfl
   have x1:W2.cell? ⟨wr.heap.size,1,none⟩=some (.bool vb):=by rw[<-hW2];simp only[World.cell?,hal.1];rfl
   have hz2:W2.heap.size=wr.heap.size+1:=by rw[<-hW2];simp[hsz1]
   have hb2:Below w1.heap.size w1 W2:=by rw[<-hW2];exact below1 w1 _
   have hir2:IRange W2 bm w.heap.size encM (changed (delAt from_ to) m todo) (todo.filter (· != k)):=hir1.kept (hb2.block bm hbm1) (hb2.block _ hlt1)
   have hon2:Only (·=bm) w W2:=(hon.then (T:=fun i=>i=w.heap.size) (Only.of_grown hg1 rfl) (fun i hi hlt=>by omega)).trans (Only.of_below hb2)
   rw[hW2]
   clear hW2 hal hnx hen hir1 d0 hb2 hg1
   have hlt2:=h.lt
   have e0:=(World.cell?_of_block (w:=w) (a:=⟨b,0,none⟩) (hon2.block b h.lt hne)).trans h.c0
   have ect:=(World.cell?_of_block (w:=w) (a:=⟨bt,0,none⟩) (hon2.block bt (lt_of_cell ct) nct)).trans ct
   have lct:=lt_of_cell ct
   have ecf:=(World.cell?_of_block (w:=w) (a:=⟨bf,0,none⟩) (hon2.block bf (lt_of_cell cf) ncf)).trans cf
   have lcf:=lt_of_cell cf
   have hs2:=hon2.size
   have hxlt:wr.heap.size<W2.heap.size:=by omega
   have HZ2:=qH hz2
   have HZ1:=qH hsz1
   clear hz2 hsz1
   have C0:∀ x:UpW W2.heap.size W2,x.w.cell? ⟨b,0,none⟩=some (.map (some bm)):=fun x=>(x.up.cell (p:=⟨b,0,none⟩) (by show b<_;omega)).trans e0
   have C1:∀ x:UpW W2.heap.size W2,x.w.cell? ⟨wr.heap.size,0,none⟩=some (.int .i64 va):=fun x=>(x.up.cell (p:=⟨wr.heap.size,0,none⟩) hxlt).trans x0
   have C2:∀ x:UpW W2.heap.size W2,x.w.cell? ⟨wr.heap.size,1,none⟩=some (.bool vb):=fun x=>(x.up.cell (p:=⟨wr.heap.size,1,none⟩) hxlt).trans x1
   have Uct:∀ x:UpW W2.heap.size W2,x.w.cell? ⟨bt,0,none⟩=some (.int .i64 to):=fun x=>(x.up.cell (p:=⟨bt,0,none⟩) (by show bt<_;omega)).trans ect
   have Ucf:∀ x:UpW W2.heap.size W2,x.w.cell? ⟨bf,0,none⟩=some (.int .i64 from_):=fun x=>(x.up.cell (p:=⟨bf,0,none⟩) (by show bf<_;omega)).trans ecf
   clear x0 x1 ect ecf
   refine wp_region_up_tail W2.heap.size 11 (by kernel_rfl) (by kernel_rfl) ?_
   simp only[List.take_succ_cons,List.take_zero,List.drop_succ_cons,List.drop_zero]
   repeat (go_big_quiet_step ((go_at_call 224;exact Calls.up _ (Nat.le_refl _) (del1_any bt bf from_ to (va,vb) _ (Uct _) (Ucf _) hat hf hft ht))))
   refine wpQuiet_nil ?_
   rintro ⟨w3,hb3⟩
   dsimp only
   clear C0 C1 C2 Uct Ucf
   have hir3:=hir2.kept (hb3.block bm hir2.im.lt) (hb3.block _ hir2.lt)
   obtain⟨w4,hrun,hir4,hg4,hsz4⟩:=hir3.store (P:=Tryz.prog) mapT keyT (k:=k) ((delAt from_ to) (va,vb),vb) (by rw[HV.out];rfl)
   have hon4:Only (·=bm) w w4:=(hon2.trans (Only.of_below hb3)).trans (Only.of_grown hg4 rfl)
   rw[changed_put HND.out HK.out HM.out HV.out] at hir4
   have hl1:=hir.left
   have hl4:=hir4.left
   have HL1:=qH hl1
   have HL4:=qH hl4
   clear hl1 hl4
   go_wp2
   go_roundw
   case rel=>exact⟨todo.filter (· != k),hir4,hon4⟩
   case measure=>
    rw[HL4.out,HL1.out]
    exact filter_lt_of_mem HK.out
set_option maxRecDepth 100000 in
set_option maxHeartbeats 2000000 in
theorem change_ins (ba bh bk:Nat) (a k_:Int) (ahead:Bool) (h:MarksAt w b bm m n) (ca:w.cell? ⟨ba,0,none⟩=some (.int .i64 a)) (nca:ba≠bm) (ch:w.cell? ⟨bh,0,none⟩=some (.bool ahead)) (nch:bh≠bm) (ck:w.cell? ⟨bk,0,none⟩=some (.int .i64 k_)) (nck:bk≠bm) (hk0:0<=k_) (hk1:k_<=65536) :
  Calls Tryz.prog 223 #[.pointer (some ⟨b,0,none⟩),.func (.func 239) #[] #[.pointer (some ⟨ba,0,none⟩),.pointer (some ⟨bh,0,none⟩),.pointer (some ⟨bk,0,none⟩)]] w fun e w'=>
   e=.returned (.tuple #[])/\IM w' bm encM (m.map (fun p=>(p.1,(insAt a k_ ahead p.2,p.2.2))))/\Only (·=bm) w w':=by
 have c0:=h.c0
 have hnd:=h.im.nodup
 have HND:=qH hnd
 clear hnd
 obtain⟨w1,hrange,hir,hb1,hs1⟩:=h.im.range (P:=Tryz.prog) mapT
 go_enter Tryz.func223,Tryz.ntmps223
 go_wp2
 clear hrange
 have hne:=h.ne
 go_loopw [4] (fun _ wr=>∃ todo,IRange wr bm w.heap.size encM (changed (insAt a k_ ahead) m todo) todo/\Only (·=bm) w wr) (fun _ wr=>wr.rangeLeft bm w.heap.size)
 case atStart=>exact⟨m.map (·.1),by rw[changed_all];exact hir,Only.of_below hb1⟩
 case round=>
  clear hir hb1 hs1 w1 c0
  obtain⟨todo,hir,hon⟩:=hrel
  have hbk:wr.heap[b]?=w.heap[b]?:=hon.block b h.lt hne
  have d0:=(World.cell?_of_block (w:=w) (a:=⟨b,0,none⟩) hbk).trans h.c0
  rcases hir.next (P:=Tryz.prog) with ⟨rfl,hnx⟩|⟨k,v,w1,hk,hv,hnx,hir1,hg1,hsz1,hen⟩
  ·go_wp2
   go_end0
   rw[changed_nil] at hir
   exact⟨rfl,hir.im,hon⟩
  ·obtain⟨va,vb⟩:=v
   have HV:=qH hv
   have HK:=qH hk
   clear hv hk
   have hmem:(k,(va,vb)) ∈ m:=changed_look HND.out HK.out HV.out
   have hat:=h.ats _ hmem
   have HM:=qH hmem
   clear hmem
   have hlt1:w.heap.size<w1.heap.size:=by have:=hir.lt;omega
   have hbm1:bm<w1.heap.size:=hir1.im.lt
   have hblt:b<w1.heap.size:=by have:=h.lt;omega
   have hrb:b≠w.heap.size:=by have:=h.lt;omega
   go_wp2
   obtain⟨W2,hW2⟩:∃ W2,w1.alloc (.cells #[.int .i64 va,.bool vb] 164)=W2:=⟨_,rfl⟩
   have hal:=MapKept.heap_alloc w1 (.cells #[.int .i64 va,.bool vb] 164)
   rw[hsz1] at hal
   have x0:W2.cell? ⟨wr.heap.size,0,none⟩=some (.int .i64 va):=by rw[<-hW2];simp only[World.cell?,hal.1];rfl
   have x1:W2.cell? ⟨wr.heap.size,1,none⟩=some (.bool vb):=by rw[<-hW2];simp only[World.cell?,hal.1];rfl
   have hz2:W2.heap.size=wr.heap.size+1:=by rw[<-hW2];simp[hsz1]
   have hb2:Below w1.heap.size w1 W2:=by rw[<-hW2];exact below1 w1 _
   have hir2:IRange W2 bm w.heap.size encM (changed (insAt a k_ ahead) m todo) (todo.filter (· != k)):=hir1.kept (hb2.block bm hbm1) (hb2.block _ hlt1)
   have hon2:Only (·=bm) w W2:=(hon.then (T:=fun i=>i=w.heap.size) (Only.of_grown hg1 rfl) (fun i hi hlt=>by omega)).trans (Only.of_below hb2)
   rw[hW2]
   clear hW2 hal hnx hen hir1 d0 hb2 hg1
   have hlt2:=h.lt
   have e0:=(World.cell?_of_block (w:=w) (a:=⟨b,0,none⟩) (hon2.block b h.lt hne)).trans h.c0
   have eca:=(World.cell?_of_block (w:=w) (a:=⟨ba,0,none⟩) (hon2.block ba (lt_of_cell ca) nca)).trans ca
   have lca:=lt_of_cell ca
   have ech:=(World.cell?_of_block (w:=w) (a:=⟨bh,0,none⟩) (hon2.block bh (lt_of_cell ch) nch)).trans ch
   have lch:=lt_of_cell ch
   have eck:=(World.cell?_of_block (w:=w) (a:=⟨bk,0,none⟩) (hon2.block bk (lt_of_cell ck) nck)).trans ck
   have lck:=lt_of_cell ck
   have hs2:=hon2.size
   have hxlt:wr.heap.size<W2.heap.size:=by omega
   have HZ2:=qH hz2
   have HZ1:=qH hsz1
   clear hz2 hsz1
   have C0:∀ x:UpW W2.heap.size W2,x.w.cell? ⟨b,0,none⟩=some (.map (some bm)):=fun x=>(x.up.cell (p:=⟨b,0,none⟩) (by show b<_;omega)).trans e0
   have C1:∀ x:UpW W2.heap.size W2,x.w.cell? ⟨wr.heap.size,0,none⟩=some (.int .i64 va):=fun x=>(x.up.cell (p:=⟨wr.heap.size,0,none⟩) hxlt).trans x0
   have C2:∀ x:UpW W2.heap.size W2,x.w.cell? ⟨wr.heap.size,1,none⟩=some (.bool vb):=fun x=>(x.up.cell (p:=⟨wr.heap.size,1,none⟩) hxlt).trans x1
   have Uca:∀ x:UpW W2.heap.size W2,x.w.cell? ⟨ba,0,none⟩=some (.int .i64 a):=fun x=>(x.up.cell (p:=⟨ba,0,none⟩) (by show ba<_;omega)).trans eca
   have Uch:∀ x:UpW W2.heap.size W2,x.w.cell? ⟨bh,0,none⟩=some (.bool ahead):=fun x=>(x.up.cell (p:=⟨bh,0,none⟩) (by show bh<_;omega)).trans ech
   have Uck:∀ x:UpW W2.heap.size W2,x.w.cell? ⟨bk,0,none⟩=some (.int .i64 k_):=fun x=>(x.up.cell (p:=⟨bk,0,none⟩) (by show bk<_;omega)).trans eck
   clear x0 x1 eca ech eck
   refine wp_region_up_tail W2.heap.size 11 (by kernel_rfl) (by kernel_rfl) ?_
   simp only[List.take_succ_cons,List.take_zero,List.drop_succ_cons,List.drop_zero]
   repeat (go_big_quiet_step ((go_at_call 239;exact Calls.up _ (Nat.le_refl _) (ins1_any ba bh bk a k_ ahead (va,vb) _ (Uca _) (Uch _) (Uck _) hat hk0 hk1))))
   refine wpQuiet_nil ?_
   rintro ⟨w3,hb3⟩
   dsimp only
   clear C0 C1 C2 Uca Uch Uck
   have hir3:=hir2.kept (hb3.block bm hir2.im.lt) (hb3.block _ hir2.lt)
   obtain⟨w4,hrun,hir4,hg4,hsz4⟩:=hir3.store (P:=Tryz.prog) mapT keyT (k:=k) ((insAt a k_ ahead) (va,vb),vb) (by rw[HV.out];rfl)
   have hon4:Only (·=bm) w w4:=(hon2.trans (Only.of_below hb3)).trans (Only.of_grown hg4 rfl)
   rw[changed_put HND.out HK.out HM.out HV.out] at hir4
   have hl1:=hir.left
   have hl4:=hir4.left
   have HL1:=qH hl1
   have HL4:=qH hl4
   clear hl1 hl4
   go_wp2
   go_roundw
   case rel=>exact⟨todo.filter (· != k),hir4,hon4⟩
   case measure=>
    rw[HL4.out,HL1.out]
    exact filter_lt_of_mem HK.out
end Go.Proofs.YtkpoodjhjfmfjaaGreatDoor.Mks
namespace Go.Proofs.YtkpoodjhjfmfjaaGreatDoor.Mks
open Go.RowKit
variable {b bm : Nat} {m : List (Int × Mk)} {n : Int} {w : World}
def delM_ (from_ to:Int) (m:List (Int × Mk)):List (Int × Mk):=m.map (fun p=>(p.1,(delAt from_ to p.2,p.2.2)))
def insM_ (a k:Int) (ahead:Bool) (m:List (Int × Mk)):List (Int × Mk):=m.map (fun p=>(p.1,(insAt a k ahead p.2,p.2.2)))
def delOk (from_ to:Int):Bool:=placeI from_ && (placeI to && decide (from_<=to))
theorem box_cell (w:World) (v:Value) (t:TypeId):(w.alloc (.cells #[v] t)).cell? ⟨w.heap.size,0,none⟩=some v:=by
 simp only[World.cell?,(MapKept.heap_alloc w _).1];rfl
theorem MarksAt.changedTo {w w1:World} {b bm:Nat} {m m':List (Int × Mk)} {n:Int} (h:MarksAt w b bm m n) (ho:Only (·=bm) w w1) (him:IM w1 bm encM m') (hk:m'.map (·.1)=m.map (·.1)) (ha:∀ p ∈ m',1<=p.2.1/\p.2.1<=1099511627776):MarksAt w1 b bm m' n:=by
 have hbk:w1.heap[b]?=w.heap[b]?:=ho.block b h.lt h.ne
 refine⟨(World.cell?_of_block (w:=w) (a:=⟨b,0,none⟩) hbk).trans h.c0,(World.cell?_of_block (w:=w) (a:=⟨b,1,none⟩) hbk).trans h.c1,(World.frozen?_of_block (w:=w) (a:=⟨b,1,none⟩) hbk).trans h.f1,him,?_,ha⟩
 intro p hp
 have:p.1 ∈ m.map (·.1):=hk▸List.mem_map.2 ⟨p,hp,rfl⟩
 obtain⟨q,hq,e⟩:=List.mem_map.1 this
 rw[<-e];exact h.ids q hq
theorem delAt_in {from_ to:Int} {x:Mk} (hx:1<=x.1/\x.1<=1099511627776) (hf:1<=from_) (hft:from_<=to) (ht:to<=1099511627776):1<=delAt from_ to x/\delAt from_ to x<=1099511627776:=by
 unfold delAt;split
 ·omega
 ·split<;>omega
set_option maxRecDepth 100000 in
set_option maxHeartbeats 1000000 in
theorem deleted_bad (h:MarksAt w b bm m n) (from_ to:Int) (hp:delOk from_ to=false):Calls Tryz.prog 154 #[.pointer (some ⟨b,0,none⟩),.int .i64 from_,.int .i64 to] w fun e w'=>e=.returned (.int .i64 3)/\Below w.heap.size w w':=by
 have hB:Below w.heap.size w ((w.alloc (.cells #[.int .i64 from_] 3)).alloc (.cells #[.int .i64 to] 3)):=(below1 w _).alloc (by simp) _
 have h1:=h.up hB
 by_cases h2:placeI from_=true
 ·by_cases h3:placeI to=true
  ·have h4:to<from_:=by simp[delOk,h2,h3] at hp;omega
   clear hp
   go_enter Tryz.func154,Tryz.ntmps154
   go_wp2_with (first|(go_at_call 141;refine(made_any h1).mono ?_;rintro e w' ⟨rfl,rfl⟩)|(go_at_call 142;refine(place_any _ _).mono ?_;rintro e w' ⟨rfl,rfl⟩))
   go_ret
   exact⟨rfl,hB⟩
  ·have h3':placeI to=false:=by simpa using h3
   clear hp h3
   go_enter Tryz.func154,Tryz.ntmps154
   go_wp2_with (first|(go_at_call 141;refine(made_any h1).mono ?_;rintro e w' ⟨rfl,rfl⟩)|(go_at_call 142;refine(place_any _ _).mono ?_;rintro e w' ⟨rfl,rfl⟩))
   go_ret
   exact⟨rfl,hB⟩
 ·have h2':placeI from_=false:=by simpa using h2
  clear hp h2
  go_enter Tryz.func154,Tryz.ntmps154
  go_wp2_with (first|(go_at_call 141;refine(made_any h1).mono ?_;rintro e w' ⟨rfl,rfl⟩)|(go_at_call 142;refine(place_any _ _).mono ?_;rintro e w' ⟨rfl,rfl⟩))
  go_ret
  exact⟨rfl,hB⟩
set_option maxRecDepth 100000 in
set_option maxHeartbeats 1000000 in
theorem deleted_ok (h:MarksAt w b bm m n) (from_ to:Int) (hp:delOk from_ to=true):Calls Tryz.prog 154 #[.pointer (some ⟨b,0,none⟩),.int .i64 from_,.int .i64 to] w fun e w'=>e=.returned (.int .i64 0)/\MarksAt w' b bm (delM_ from_ to m) n/\Only (Own2 b bm) w w':=by
 have h2:placeI from_=true:=by simp[delOk] at hp;exact hp.1
 have h3:placeI to=true:=by simp[delOk] at hp;exact hp.2.1
 have h4:from_<=to:=by simp[delOk] at hp;exact hp.2.2
 clear hp
 have q1:=placeI_true h2
 have q2:=placeI_true h3
 have hB:Below w.heap.size w ((w.alloc (.cells #[.int .i64 from_] 3)).alloc (.cells #[.int .i64 to] 3)):=(below1 w _).alloc (by simp) _
 have h1:=h.up hB
 have k0:=box_cell w (.int .i64 from_) 3
 have k0':=((below1 (w.alloc (.cells #[.int .i64 from_] 3)) (.cells #[.int .i64 to] 3)).cell (p:=⟨w.heap.size,0,none⟩) (by simp)).trans k0
 have k1:=box_cell (w.alloc (.cells #[.int .i64 from_] 3)) (.int .i64 to) 3
 rw[World.size_alloc] at k1
 have hbl:=h.im.lt
 have hblt:=h.lt
 clear k0
 go_enter Tryz.func154,Tryz.ntmps154
 go_wp2_with (first|(go_at_call 141;refine(made_any h1).mono ?_;rintro e w' ⟨rfl,rfl⟩)|(go_at_call 142;refine(place_any _ _).mono ?_;rintro e w' ⟨rfl,rfl⟩)|(go_at_call 223;refine(change_del (w.heap.size+1) w.heap.size from_ to h1 k1 (by omega) k0' (by omega) (by omega) (by omega) (by omega)).mono ?_;rintro e w' ⟨rfl,him,hon⟩))
 go_ret
 refine⟨rfl,h1.changedTo hon him (by unfold delM_;rw[List.map_map];rfl) ?_,(Only.of_below hB).trans (hon.mono (fun k e=>.inr e))⟩
 intro p hp
 obtain⟨q,hq,rfl⟩:=List.mem_map.1 hp
 exact delAt_in (h.ats q hq) (by omega) (by omega) (by omega)
abbrev insW (w:World) (a k:Int) (ahead:Bool):World:=((w.alloc (.cells #[.int .i64 a] 3)).alloc (.cells #[.int .i64 k] 3)).alloc (.cells #[.bool ahead] 4)
theorem insW_below (w:World) (a k:Int) (ahead:Bool):Below w.heap.size w (insW w a k ahead):=((below1 w _).alloc (by simp) _).alloc (by simp;omega) _
theorem insW_cells (w:World) (a k:Int) (ahead:Bool):(insW w a k ahead).cell? ⟨w.heap.size,0,none⟩=some (.int .i64 a)/\(insW w a k ahead).cell? ⟨w.heap.size+1,0,none⟩=some (.int .i64 k)/\(insW w a k ahead).cell? ⟨w.heap.size+1+1,0,none⟩=some (.bool ahead):=by
 have k0:=box_cell w (.int .i64 a) 3
 have k1:=box_cell (w.alloc (.cells #[.int .i64 a] 3)) (.int .i64 k) 3
 have k2:=box_cell ((w.alloc (.cells #[.int .i64 a] 3)).alloc (.cells #[.int .i64 k] 3)) (.bool ahead) 4
 simp only[World.size_alloc] at k1 k2
 refine⟨?_,?_,k2⟩
 ·exact((below1 _ _).cell (p:=⟨w.heap.size,0,none⟩) (by simp;omega)).trans (((below1 _ _).cell (p:=⟨w.heap.size,0,none⟩) (by simp)).trans k0)
 ·exact((below1 _ _).cell (p:=⟨w.heap.size+1,0,none⟩) (by simp)).trans k1
set_option maxRecDepth 100000 in
set_option maxHeartbeats 1000000 in
theorem inserted_range (h:MarksAt w b bm m n) (a k:Int) (ahead:Bool) (hp:placeI a=false):Calls Tryz.prog 170 #[.pointer (some ⟨b,0,none⟩),.int .i64 a,.int .i64 k,.bool ahead] w fun e w'=>e=.returned (.int .i64 3)/\Below w.heap.size w w':=by
 have hB:=insW_below w a k ahead
 have h1:=h.up hB
 go_enter Tryz.func170,Tryz.ntmps170
 go_wp2_with (first|(go_at_call 141;refine(made_any h1).mono ?_;rintro e w' ⟨rfl,rfl⟩)|(go_at_call 142;refine(place_any _ _).mono ?_;rintro e w' ⟨rfl,rfl⟩))
 go_ret
 exact⟨rfl,hB⟩
set_option maxRecDepth 100000 in
set_option maxHeartbeats 1000000 in
theorem inserted_arg (h:MarksAt w b bm m n) (a k:Int) (ahead:Bool) (hp:placeI a=true) (hk:k<0\/65536<k):Calls Tryz.prog 170 #[.pointer (some ⟨b,0,none⟩),.int .i64 a,.int .i64 k,.bool ahead] w fun e w'=>e=.returned (.int .i64 2)/\Below w.heap.size w w':=by
 have hB:=insW_below w a k ahead
 have h1:=h.up hB
 rcases hk with hk|hk
 all_goals
  go_enter Tryz.func170,Tryz.ntmps170
  go_wp2_with (first|(go_at_call 141;refine(made_any h1).mono ?_;rintro e w' ⟨rfl,rfl⟩)|(go_at_call 142;refine(place_any _ _).mono ?_;rintro e w' ⟨rfl,rfl⟩))
  all_goals (go_ret;exact⟨rfl,hB⟩)
def InsPost (w:World) (b bm:Nat) (m:List (Int × Mk)) (n a k:Int) (ahead:Bool) (e:Ending) (w':World):Prop:=
 (e=.returned (.int .i64 3)/\(∃ p ∈ m,placeI (insAt a k ahead p.2)=false)/\Below w.heap.size w w') \/
 (e=.returned (.int .i64 0)/\(∀ p ∈ m,placeI (insAt a k ahead p.2)=true)/\MarksAt w' b bm (insM_ a k ahead m) n/\Only (Own2 b bm) w w')
set_option maxRecDepth 100000 in
set_option maxHeartbeats 2000000 in
theorem inserted_go (h:MarksAt w b bm m n) (a k:Int) (ahead:Bool) (hp:placeI a=true) (hk0:0<=k) (hk1:k<=65536):Calls Tryz.prog 170 #[.pointer (some ⟨b,0,none⟩),.int .i64 a,.int .i64 k,.bool ahead] w (InsPost w b bm m n a k ahead):=by
 have hB:=insW_below w a k ahead
 have h1:=h.up hB
 obtain⟨k0,k1,k2⟩:=insW_cells w a k ahead
 have c0:=h1.c0
 obtain⟨w1,hrange,hir,hb1,hs1⟩:=h1.im.range (P:=Tryz.prog) mapT
 have hsz:(insW w a k ahead).heap.size=w.heap.size+1+1+1:=by simp
 rw[hsz] at hrange hir hs1
 have hbl:=h.im.lt
 have hblt:=h.lt
 have HS:=qH hsz
 clear hsz
 go_enter Tryz.func170,Tryz.ntmps170
 go_wp2_with (first|(go_at_call 141;refine(made_any h1).mono ?_;rintro e w' ⟨rfl,rfl⟩)|(go_at_call 142;refine(place_any _ _).mono ?_;rintro e w' ⟨rfl,rfl⟩))
 go_loopw [11] (fun _ wr=>∃ todo,IRange wr bm (w.heap.size+1+1+1) encM m todo/\Below (w.heap.size+1+1+1) (insW w a k ahead) wr/\∀ p ∈ m,p.1 ∉ todo->placeI (insAt a k ahead p.2)=true) (fun _ wr=>wr.rangeLeft bm (w.heap.size+1+1+1))
 case atStart=>exact⟨m.map (·.1),hir,by have:=HS.out;rw[this] at hb1;exact hb1,fun p hp hn=>absurd (List.mem_map.2 ⟨p,hp,rfl⟩) hn⟩
 case round=>
  clear hir hb1 hs1 hrange w1 c0
  obtain⟨todo,hir,hbw,hall⟩:=hrel
  have HA:=qH hall
  clear hall
  have d0:=(hbw.cell (p:=⟨w.heap.size,0,none⟩) (by show w.heap.size<_;omega)).trans k0
  have d1:=(hbw.cell (p:=⟨w.heap.size+1,0,none⟩) (by show w.heap.size+1<_;omega)).trans k1
  have d2:=(hbw.cell (p:=⟨w.heap.size+1+1,0,none⟩) (by show w.heap.size+1+1<_;omega)).trans k2
  have hrl:=hir.lt
  have hmw:MarksAt wr b bm m n:=h1.below hbw (by omega) (by omega)
  clear k0 k1 k2
  rcases hir.next (P:=Tryz.prog) with ⟨rfl,hnx⟩|⟨id,v,w1,hk,hv,hnx,hir1,hg1,hsz1,hen⟩
  ·go_wp2_with fail
   refine(change_ins w.heap.size (w.heap.size+1+1) (w.heap.size+1) a k ahead hmw d0 (by omega) d2 (by omega) d1 (by omega) hk0 hk1).mono ?_
   rintro e w2 ⟨rfl,him,hon⟩
   go_wp2
   go_ret
   refine .inr ⟨rfl,fun p hp=>HA.out p hp (by simp),hmw.changedTo hon him (by unfold insM_;rw[List.map_map];rfl) ?_,((Only.of_below hB).trans (Only.of_up hbw (by rw[HS.out];omega))).trans (hon.mono (fun k e=>.inr e))⟩
   intro p hp
   obtain⟨q,hq,rfl⟩:=List.mem_map.1 hp
   exact placeI_true (HA.out q hq (by simp))
  ·obtain⟨va,vb⟩:=v
   have HV:=qH hv
   have HK:=qH hk
   clear hv hk
   have hmem:(id,(va,vb)) ∈ m:=lookM_mem HV.out
   have hat:=h.ats _ hmem
   have HM:=qH hmem
   clear hmem
   have hl1:=hir.left
   have HL1:=qH hl1
   clear hl1
   have hal:=MapKept.heap_alloc w1 (.cells #[.int .i64 va,.bool vb] 164)
   have hgx:∀ j,j<w1.heap.size->j≠w.heap.size+1+1+1->(w1.alloc (.cells #[.int .i64 va,.bool vb] 164)).heap[j]?=wr.heap[j]?:=fun j hj hne=>(hal.2 j hj).trans (hg1.block j (by omega) (fun e=>hne (by cases e;rfl)))
   obtain⟨W2,hW2⟩:∃ W2,w1.alloc (.cells #[.int .i64 va,.bool vb] 164)=W2:=⟨_,rfl⟩
   have hir2:IRange W2 bm (w.heap.size+1+1+1) encM m (todo.filter (· != id)):=by
    rw[<-hW2];exact hir1.kept (hal.2 bm hir1.im.lt) (hal.2 _ hir1.lt)
   have hbw2:Below (w.heap.size+1+1+1) (insW w a k ahead) W2:=by
    refine hbw.trans ⟨?_,?_,?_,?_,?_⟩
    ·rw[<-hW2];exact hg1.os
    ·rw[<-hW2];exact hg1.tape
    ·rw[<-hW2];exact hg1.output
    ·rw[<-hW2];simp;omega
    ·intro j hj;rw[<-hW2];exact hgx j (by omega) (by omega)
   have e0:=(hbw2.cell (p:=⟨w.heap.size,0,none⟩) (by show w.heap.size<_;omega)).trans (insW_cells w a k ahead).1
   have e1:=(hbw2.cell (p:=⟨w.heap.size+1,0,none⟩) (by show w.heap.size+1<_;omega)).trans (insW_cells w a k ahead).2.1
   have e2:=(hbw2.cell (p:=⟨w.heap.size+1+1,0,none⟩) (by show w.heap.size+1+1<_;omega)).trans (insW_cells w a k ahead).2.2
   have hzW:w.heap.size+1+1+1<W2.heap.size:=hir2.lt
   have x0:W2.cell? ⟨wr.heap.size,0,none⟩=some (.int .i64 va):=by rw[<-hsz1,<-hW2];simp only[World.cell?,hal.1];rfl
   have x1:W2.cell? ⟨wr.heap.size,1,none⟩=some (.bool vb):=by rw[<-hsz1,<-hW2];simp only[World.cell?,hal.1];rfl
   clear d0 d1 d2 hgx hal
   go_wp2_with fail
   have hb3':∀ w3,Below W2.heap.size W2 w3->IRange w3 bm (w.heap.size+1+1+1) encM m (todo.filter (· != id))/\Below (w.heap.size+1+1+1) (insW w a k ahead) w3:=fun w3 hb3=>
    ⟨hir2.kept (hb3.block bm hir2.im.lt) (hb3.block _ hir2.lt),hbw2.trans (hb3.mono (by omega))⟩
   have HB3:=qH hb3'
   clear hb3'
   refine(ins1_any w.heap.size (w.heap.size+1+1) (w.heap.size+1) a k ahead (va,vb) W2 e0 e2 e1 hat hk0 hk1).mono ?_
   rintro e w3 ⟨rfl,hb3⟩
   obtain⟨hir3,hbw3⟩:=HB3.out w3 hb3
   have hl3:=hir3.left
   have HL3:=qH hl3
   clear hl3 e0 e1 e2 hnx hen hir2 hbw2 HB3 hW2 hir1 hsz1 x0 x1
   by_cases hq:placeI (insAt a k ahead (va,vb))=true
   ·go_wp2_with (go_at_call 142;refine(place_any _ _).mono ?_;rintro e w' ⟨rfl,rfl⟩)
    go_roundw
    case rel=>
     refine⟨todo.filter (· != id),hir3,hbw3,fun p hp hn=>?_⟩
     by_cases hpk:p.1=id
     ·rw[inj_of_nodup h.im.nodup hp HM.out hpk];exact hq
     ·exact HA.out p hp (fun hin=>hn (List.mem_filter.2 ⟨hin,by simpa using hpk⟩))
    case measure=>
     rw[HL3.out,HL1.out]
     exact filter_lt_of_mem HK.out
   ·have hq':placeI (insAt a k ahead (va,vb))=false:=by simpa using hq
    clear hq
    go_wp2_with (go_at_call 142;refine(place_any _ _).mono ?_;rintro e w' ⟨rfl,rfl⟩)
    go_ret
    exact .inl ⟨rfl,⟨_,HM.out,hq'⟩,hB.trans (hbw3.mono (by omega))⟩
end Go.Proofs.YtkpoodjhjfmfjaaGreatDoor.Mks
namespace Go.Proofs.YtkpoodjhjfmfjaaGreatDoor.Mks
open Go.RowKit
variable {b bm : Nat} {m : List (Int × Mk)} {n : Int} {w : World}
theorem inserted_ok (h:MarksAt w b bm m n) (a k:Int) (ahead:Bool) (hp:placeI a=true) (hk0:0<=k) (hk1:k<=65536) (hall:∀ p ∈ m,placeI (insAt a k ahead p.2)=true) :
  Calls Tryz.prog 170 #[.pointer (some ⟨b,0,none⟩),.int .i64 a,.int .i64 k,.bool ahead] w fun e w'=>e=.returned (.int .i64 0)/\MarksAt w' b bm (insM_ a k ahead m) n/\Only (Own2 b bm) w w':=
 (inserted_go h a k ahead hp hk0 hk1).mono fun e w' hpost=>by
  rcases hpost with ⟨_,⟨p,hp,hf⟩,_⟩|⟨he,_,h2,h3⟩
  ·rw[hall p hp] at hf;cases hf
  ·exact⟨he,h2,h3⟩
theorem inserted_bad (h:MarksAt w b bm m n) (a k:Int) (ahead:Bool) (hp:placeI a=true) (hk0:0<=k) (hk1:k<=65536) {p:Int × Mk} (hin:p ∈ m) (hf:placeI (insAt a k ahead p.2)=false) :
  Calls Tryz.prog 170 #[.pointer (some ⟨b,0,none⟩),.int .i64 a,.int .i64 k,.bool ahead] w fun e w'=>e=.returned (.int .i64 3)/\Below w.heap.size w w':=
 (inserted_go h a k ahead hp hk0 hk1).mono fun e w' hpost=>by
  rcases hpost with ⟨he,_,h2⟩|⟨_,hall,_⟩
  ·exact⟨he,h2⟩
  ·rw[hall p hin] at hf;cases hf
end Go.Proofs.YtkpoodjhjfmfjaaGreatDoor.Mks
namespace Go.Proofs.YtkpoodjhjfmfjaaGreatDoor.Mks
open Go.RowKit
variable {b bm : Nat} {m : List (Int × Mk)} {n : Int} {w : World}
structure DoR where
 m:List (Int × Mk)
 n:Int
 ret:Int
 err:Int
def addR (m:List (Int × Mk)) (n a:Int) (on:Bool):DoR:=if placeI a=false then ⟨m,n,0,3⟩ else if 4096<=m.length then ⟨m,n,0,7⟩ else ⟨m++[(n,(a,on))],n+1,n,0⟩
def moveR (m:List (Int × Mk)) (n id a:Int):DoR:=match lookM m id with|none=>⟨m,n,0,8⟩|some x=>if placeI a=false then ⟨m,n,0,3⟩ else ⟨putM m id (a,x.2),n,0,0⟩
def insR (m:List (Int × Mk)) (n a k:Int) (ahead:Bool):DoR:=
 if placeI a=false then ⟨m,n,0,3⟩ else if k<0\/65536<k then ⟨m,n,0,2⟩ else if (m.all (fun p=>placeI (insAt a k ahead p.2)))=true then ⟨insM_ a k ahead m,n,0,0⟩ else ⟨m,n,0,3⟩
def delR (m:List (Int × Mk)) (n from_ to:Int):DoR:=if delOk from_ to=true then ⟨delM_ from_ to m,n,0,0⟩ else ⟨m,n,0,3⟩
def Post1 (w:World) (b bm:Nat) (r:DoR) (e:Ending) (w':World):Prop:=e=.returned (.int .i64 r.err)/\MarksAt w' b bm r.m r.n/\Only (Own2 b bm) w w'
def Post2 (w:World) (b bm:Nat) (r:DoR) (e:Ending) (w':World):Prop:=e=.returned (.tuple #[.int .i64 r.ret,.int .i64 r.err])/\MarksAt w' b bm r.m r.n/\Only (Own2 b bm) w w'
theorem add_all (h:MarksAt w b bm m n) (a:Int) (on:Bool) (hn0:0<=n) (hn1:n<=1000000000):Calls Tryz.prog 72 #[.pointer (some ⟨b,0,none⟩),.int .i64 a,.bool on] w (Post2 w b bm (addR m n a on)):=by
 unfold addR
 by_cases h1:placeI a=false
 ·rw[if_pos h1];exact(add_range h a on h1).mono fun e w' ⟨he,hw⟩=>⟨he,hw▸h,hw▸Only.refl _ _⟩
 ·rw[if_neg h1]
  have h1':placeI a=true:=by simpa using h1
  by_cases h2:4096<=m.length
  ·rw[if_pos h2];exact(add_full h a on h1' h2).mono fun e w' ⟨he,hw⟩=>⟨he,hw▸h,hw▸Only.refl _ _⟩
  ·rw[if_neg h2];exact add_ok h a on h1' (by omega) hn0 hn1
theorem move_all (h:MarksAt w b bm m n) (id a:Int):Calls Tryz.prog 98 #[.pointer (some ⟨b,0,none⟩),.int .i64 id,.int .i64 a] w (Post1 w b bm (moveR m n id a)):=by
 unfold moveR
 cases hx:lookM m id with
 | none=>exact(move_no h a hx).mono fun e w' ⟨he,hb⟩=>⟨he,h.up hb,Only.of_below hb⟩
 | some x=>
   by_cases h1:placeI a=false
   ·simp only[h1,if_true];exact(move_range h a hx h1).mono fun e w' ⟨he,hb⟩=>⟨he,h.up hb,Only.of_below hb⟩
   ·have h1':placeI a=true:=by simpa using h1
    simp only[h1];exact move_ok h a hx h1'
theorem ins_all (h:MarksAt w b bm m n) (a k:Int) (ahead:Bool):Calls Tryz.prog 170 #[.pointer (some ⟨b,0,none⟩),.int .i64 a,.int .i64 k,.bool ahead] w (Post1 w b bm (insR m n a k ahead)):=by
 unfold insR
 by_cases h1:placeI a=false
 ·rw[if_pos h1];exact(inserted_range h a k ahead h1).mono fun e w' ⟨he,hb⟩=>⟨he,h.up hb,Only.of_below hb⟩
 ·rw[if_neg h1]
  have h1':placeI a=true:=by simpa using h1
  by_cases h2:k<0\/65536<k
  ·rw[if_pos h2];exact(inserted_arg h a k ahead h1' h2).mono fun e w' ⟨he,hb⟩=>⟨he,h.up hb,Only.of_below hb⟩
  ·rw[if_neg h2]
   by_cases h3:(m.all (fun p=>placeI (insAt a k ahead p.2)))=true
   ·rw[if_pos h3];exact inserted_ok h a k ahead h1' (by omega) (by omega) (fun p hp=>by simpa using List.all_eq_true.1 h3 p hp)
   ·rw[if_neg h3]
    have:∃ p ∈ m,placeI (insAt a k ahead p.2)=false:=by
     obtain⟨p,hp,hf⟩:=List.all_eq_false.1 (Bool.eq_false_iff.2 h3)
     exact⟨p,hp,by simpa using hf⟩
    obtain⟨p,hp,hf⟩:=this
    exact(inserted_bad h a k ahead h1' (by omega) (by omega) hp hf).mono fun e w' ⟨he,hb⟩=>⟨he,h.up hb,Only.of_below hb⟩
theorem del_all (h:MarksAt w b bm m n) (from_ to:Int):Calls Tryz.prog 154 #[.pointer (some ⟨b,0,none⟩),.int .i64 from_,.int .i64 to] w (Post1 w b bm (delR m n from_ to)):=by
 unfold delR
 by_cases h1:delOk from_ to=true
 ·rw[if_pos h1];exact deleted_ok h from_ to h1
 ·rw[if_neg h1];exact(deleted_bad h from_ to (by simpa using h1)).mono fun e w' ⟨he,hb⟩=>⟨he,h.up hb,Only.of_below hb⟩
end Go.Proofs.YtkpoodjhjfmfjaaGreatDoor.Mks
namespace Go.Proofs.YtkpoodjhjfmfjaaGreatDoor.Mks
open Go.RowKit Go.Maps Go.Sort Go.Shelf
abbrev encI (z:Int):List Value:=[.int .i64 z]
theorem cellsI (xs:List Int):cellsL encI xs=xs.map encZ:=by
 induction xs with
 | nil=>rfl
 | cons x xs ih=>rw[cellsL_cons,ih];rfl
theorem eltI:Elt encI 78 3 1 8 (.int .i64 0):=⟨Tryz.underlying78,by kernel_rfl,rfl,by omega,fun _=>rfl,fun x u hu=>by simp at hu;subst hu;rfl⟩
theorem sortsA (n:Nat):AnyZI.SortsIn Tryz.prog Tryz.sortedA_ren Fence.wide n:=
 ⟨fun blk off cap ss W hH hblk hsz=>callsIn_wide.2 (AnyM.slices_Sort_int Tryz.sortA blk off cap ss W hH hblk hsz),
  fun p cap W=>callsIn_wide.2 (AnyM.slices_Sort_int_none Tryz.sortA p cap W)⟩
theorem sort_asc {ss ks:List Int} (h:ss.Perm ks) (ha:ks.Pairwise (·<·)):ss.mergeSort (fun x y=>decide (x<=y))=ks:=by
 rw[show(fun x y:Int=>decide (x<=y))=leI from rfl,mergeSort_of_perm_i h]
 exact List.mergeSort_of_pairwise (ha.imp fun h=>by simp only[leI,decide_eq_true_eq];omega)
end Go.Proofs.YtkpoodjhjfmfjaaGreatDoor.Mks
namespace Go.Proofs.YtkpoodjhjfmfjaaGreatDoor
open Go.RowKit
section
variable {P : Program} {ops : Array Oper} {md : Region.Mode} {C : World → Prop}
end
end Go.Proofs.YtkpoodjhjfmfjaaGreatDoor
namespace Go.Proofs.YtkpoodjhjfmfjaaGreatDoor.Mks
open Go.RowKit
variable {b bm : Nat} {m : List (Int × Mk)} {n : Int} {w : World}
end Go.Proofs.YtkpoodjhjfmfjaaGreatDoor.Mks
namespace Go.Proofs.YtkpoodjhjfmfjaaGreatDoor.Mks
open Go.RowKit
end Go.Proofs.YtkpoodjhjfmfjaaGreatDoor.Mks
namespace Go.Proofs.YtkpoodjhjfmfjaaGreatDoor.Mks
open Go.RowKit
def two (p:Int) (a:Int) (on:Bool) (b:Int) (also:Bool):List (Int × Mk):=if p=0 then [(0,(a,on)),(1,(b,also))] else [(0,(b,also)),(1,(a,on))]
end Go.Proofs.YtkpoodjhjfmfjaaGreatDoor.Mks
namespace Go.Proofs.YtkpoodjhjfmfjaaGreatDoor.Mks
end Go.Proofs.YtkpoodjhjfmfjaaGreatDoor.Mks
namespace Go.Proofs.YtkpoodjhjfmfjaaGreatDoor.Mks
open Go.RowKit
end Go.Proofs.YtkpoodjhjfmfjaaGreatDoor.Mks
namespace Go.Proofs.YtkpoodjhjfmfjaaGreatDoor.Mks
open Go.RowKit Go.Shelf
variable {b bm : Nat} {m : List (Int × Mk)} {n : Int}
end Go.Proofs.YtkpoodjhjfmfjaaGreatDoor.Mks
namespace Go.Proofs.YtkpoodjhjfmfjaaGreatDoor.Mks
open Go.RowKit Go.Shelf
variable {b bm : Nat} {m : List (Int × Mk)} {n : Int} {w : World}
end Go.Proofs.YtkpoodjhjfmfjaaGreatDoor.Mks
namespace Go.Proofs.YtkpoodjhjfmfjaaGreatDoor.Mks
open Go.RowKit Go.Sort Go.Shelf
structure DrW (w0:World) where
 w:World
 dr:∃ q,w=w0.drewN q
instance DrW.some (w0:World):Nonempty (DrW w0):=⟨⟨w0.drewN 1,1,rfl⟩⟩
theorem _root_.Go.Proofs.YtkpoodjhjfmfjaaGreatDoor.Calls.dr_same {P:Program} {f:FuncId} {args:Array Value} {w0:World} {v:Value} (x:DrW w0) (h:Calls P f args x.w fun e w'=>e=.returned v/\x.w=w') :
  Calls P f args x.w fun e w''=>e=.returned v/\∃ y:DrW w0,w''=y.w:=
 h.mono fun e w' ⟨he,hb⟩=>⟨he,x,hb.symm⟩
theorem wp_region_dr_tail {P:Program} {id:Nat} {Q:Exit->Act->World->Prop} {a:Act} {w:World} {l:List Oper} (n:Nat) (hm:P.follows .mixedOrders=true) (hB:Region.lexTailB .any l.toArray n=true)
  (h:wpQuiet P l.toArray (fun w'=>∃ x:DrW w,w'=x.w) (fun a'=>∀ x:DrW w,wpList P l.toArray Q (l.drop n) a' x.w) (l.take n) a):(Code.region id l.toArray true).wp P Q a w:=by
 simp only[Region.lexTailB,Bool.and_eq_true,decide_eq_true_eq] at hB
 obtain⟨⟨⟨⟨hsel,hn⟩,hs⟩,hc⟩,hlex⟩:=hB
 have hn':n<l.length:=by simpa using hn
 have htl:(l.take n).length=n:=by simp;omega
 have hdl:(l.drop n).length=l.toArray.size - n:=by simp
 have inv0:HeadInv .any l.toArray n (Array.replicate l.toArray.size false):=
  ⟨by simp,fun j oj _ hl=>(by rw[getD_replicate_false] at hl;cases hl),fun t _ ht=>getD_in (by simpa using ht) (getD_replicate_false _ _)⟩
 have H:=head_lex (md:=.any) (g:=l.toArray.size - n) hsel hs hc hn (l.take n) 0 _ a (fun j hj=>by
  have hj':j<n:=by rw[htl] at hj;exact hj
  simp[hj']) (by simpa using htl) inv0 (by rw[htl];exact hlex) h
 refine wp_region_any hm ?_
 have:=any_of_head (Q:=Q) (g:=l.toArray.size - n) (fun listed a' w' hw hL=>by
  obtain⟨x,rfl⟩:=hw
  have:=wpAny_of_seq (md:=.any) (Q':=Q) (l.drop n) n listed a' x.w (fun j=>by simp[List.getElem?_drop]) (by rw[hdl];exact hL.1) (hL.2 x)
  rwa [hdl] at this) _ _ _ _ ⟨⟨w.drewN 1,1,rfl⟩,rfl⟩ H
 rw[htl,show n+(l.toArray.size - n)=l.toArray.size by omega] at this
 exact this
def cmpI (x y:Int):Int:=if x<y then -1 else if y<x then 1 else 0
def mkI (m:List (Int × Mk)) (x:Int):Mk:=(lookM m x).getD (0,false)
def orI (c d:Int):Int:=if c=0 then d else c
def cfI (m:List (Int × Mk)) (x y:Int):Int:=orI (cmpI (mkI m x).1 (mkI m y).1) (cmpI x y)
set_option maxHeartbeats 400000 in
theorem isnan_any (x:Int) (w:World):Calls Tryz.prog 266 #[.int .i64 x] w fun e w'=>e=.returned (.bool false)/\w=w':=by
 have hx:(x != x)=false:=by simp
 go_enter Tryz.func266,Tryz.ntmps266
 go_wp2
 go_ret
 exact⟨rfl,rfl⟩
set_option maxHeartbeats 400000 in
theorem cmp_any (x y:Int) (w:World):Calls Tryz.prog 218 #[.int .i64 x,.int .i64 y] w fun e w'=>e=.returned (.int .i64 (cmpI x y))/\w=w':=by
 go_enter Tryz.func218,Tryz.ntmps218
 go_wp2_with (go_at_call 266;refine(isnan_any _ _).mono ?_;rintro e w' ⟨rfl,rfl⟩)
 all_goals (go_ret;exact⟨ret_int (by unfold cmpI;omega),rfl⟩)
set_option maxHeartbeats 1000000 in
theorem or_any (g cap:Nat) (c d:Int) (w:World) (h0:w.cell? ⟨g,0,none⟩=some (.int .i64 c)) (h1:w.cell? ⟨g,1,none⟩=some (.int .i64 d)):Calls Tryz.prog 217 #[.slice (some ⟨g,0,none⟩) 2 cap] w fun e w'=>e=.returned (.int .i64 (orI c d))/\w=w':=by
 go_enter Tryz.func217,Tryz.ntmps217
 go_wp2
 go_loop [5,8] (fun _ vi=>∃ k:Nat,k<=2/\vi=.int .i64 k/\(1<=k->c=0)/\(2<=k->d=0)) (fun _ vi=>2 -(intOf vi).toNat)
 case atStart=>exact⟨0,by omega,rfl,by omega,by omega⟩
 case round=>
  obtain⟨k,hk,rfl,hc,hd⟩:=hrel
  have HC:=qH hc
  have HD:=qH hd
  clear hc hd
  have hcase:k=0\/k=1\/k=2:=by omega
  rcases hcase with rfl|rfl|rfl
  ·by_cases hz:c=0
   ·subst hz
    go_wp2
    go_round
    case rel=>exact⟨1,by omega,by go_num,by simp,by omega⟩
    case measure=>simp[intOf]
   ·have hz':(c != 0)=true:=by simpa using hz
    go_wp2
    go_ret
    exact⟨ret_int (by unfold orI;rw[if_neg hz]),rfl⟩
  ·have hc0:=HC.out (by omega)
   subst hc0
   by_cases hz:d=0
   ·subst hz
    go_wp2
    go_round
    case rel=>exact⟨2,by omega,by go_num,by simp,by simp⟩
    case measure=>simp[intOf]
   ·have hz':(d != 0)=true:=by simpa using hz
    go_wp2
    go_ret
    exact⟨ret_int (by unfold orI;rw[if_pos rfl]),rfl⟩
  ·have hc0:=HC.out (by omega)
   have hd0:=HD.out (by omega)
   subst hc0 hd0
   go_wp2
   go_ret
   exact⟨ret_int (by unfold orI;rfl),rfl⟩
def GrowPost (c:Int) (W:World) (e:Ending) (w':World):Prop:=e=.returned (.int .i64 c)/\∃ q os',w'=grow (W.drewN q) os'
theorem pair_cells (W:World) (q:Nat) (c d:Int):((W.drewN q).alloc (.cells #[.int .i64 c,.int .i64 d] 3)).cell? ⟨W.heap.size,0,none⟩=some (.int .i64 c)/\((W.drewN q).alloc (.cells #[.int .i64 c,.int .i64 d] 3)).cell? ⟨W.heap.size,1,none⟩=some (.int .i64 d):=by
 have h:((W.drewN q).alloc (.cells #[.int .i64 c,.int .i64 d] 3)).heap[W.heap.size]?=some (.cells #[.int .i64 c,.int .i64 d] 3):=(MapKept.heap_alloc (W.drewN q) (.cells #[.int .i64 c,.int .i64 d] 3)).1
 constructor<;>(simp only[World.cell?,h];rfl)
theorem lookI {W:World} {b bm:Nat} {m:List (Int × Mk)} {n:Int} (h:MarksAt W b bm m n) (x:Int):(Instr.lookup 160 (.map (some bm)) (.int .i64 x) false).run Tryz.prog W=.ok (encM (mkI m x)) W:=by
 unfold mkI
 rcases hv:lookM m x with _|v
 ·have:=h.im.look_none mapT keyT hv false (z:=encM (0,false)) (by kernel_rfl)
  simpa using this
 ·have:=h.im.look_some mapT keyT hv false
  simpa using this
set_option maxRecDepth 100000 in
set_option maxHeartbeats 1000000 in
theorem in1_any {W:World} {B b bm:Nat} {m:List (Int × Mk)} {n:Int} (hB:W.cell? ⟨B,0,none⟩=some (.pointer (some ⟨b,0,none⟩))) (h:MarksAt W b bm m n) (x y:Int) :
  Calls Tryz.prog 216 #[.int .i64 x,.int .i64 y,.pointer (some ⟨B,0,none⟩)] W (GrowPost (cfI m x y) W):=by
 have hx:∀ d:DrW W,(Instr.lookup 160 (.map (some bm)) (.int .i64 x) false).run Tryz.prog d.w=.ok (encM (mkI m x)) d.w:=fun⟨w,q,e⟩=>by subst e;exact lookI (W:=W.drewN q) (h.kept rfl rfl) x
 have hy:∀ d:DrW W,(Instr.lookup 160 (.map (some bm)) (.int .i64 y) false).run Tryz.prog d.w=.ok (encM (mkI m y)) d.w:=fun⟨w,q,e⟩=>by subst e;exact lookI (W:=W.drewN q) (h.kept rfl rfl) y
 have C0:∀ d:DrW W,d.w.cell? ⟨B,0,none⟩=some (.pointer (some ⟨b,0,none⟩)):=fun⟨w,q,e⟩=>by subst e;exact hB
 have C1:∀ d:DrW W,d.w.cell? ⟨b,0,none⟩=some (.map (some bm)):=fun⟨w,q,e⟩=>by subst e;exact h.c0
 clear hB h
 unfold cfI
 generalize mkI m x=X at *
 generalize mkI m y=Y at *
 obtain⟨xa,xb⟩:=X
 obtain⟨ya,yb⟩:=Y
 have fx:=fieldMk0 (xa,xb)
 have fy:=fieldMk0 (ya,yb)
 dsimp only
 go_enter Tryz.func216,Tryz.ntmps216
 go_wp2_with fail
 refine wp_region_dr_tail 18 (by kernel_rfl) (by kernel_rfl) ?_
 simp only[List.take_succ_cons,List.take_zero,List.drop_succ_cons,List.drop_zero]
 repeat (go_big_quiet_step ((go_at_call 218;exact Calls.dr_same _ (cmp_any _ _ _))))
 refine wpQuiet_nil ?_
 rintro ⟨w2,q,rfl⟩
 dsimp only
 clear C0 C1 hx hy fx fy
 obtain⟨p0,p1⟩:=pair_cells W q (cmpI xa ya) (cmpI x y)
 have P0:=qH p0
 have P1:=qH p1
 clear p0 p1
 go_wp2_with fail
 refine(or_any _ _ (cmpI xa ya) (cmpI x y) _ (by exact P0.out) (by exact P1.out)).mono ?_
 rintro e w' ⟨rfl,rfl⟩
 go_wp2_with fail
 go_ret
 exact⟨rfl,q,_,alloc_eq_grow (W.drewN q) _⟩
end Go.Proofs.YtkpoodjhjfmfjaaGreatDoor.Mks
namespace Go.Proofs.YtkpoodjhjfmfjaaGreatDoor.Mks
open Go.RowKit Go.Sort Go.Shelf
theorem cf_lt (m:List (Int × Mk)) (x y:Int):cfI m x y<0 ↔ (mkI m x).1<(mkI m y).1\/((mkI m x).1=(mkI m y).1/\x<y):=by
 unfold cfI orI cmpI
 generalize (mkI m x).1=a
 generalize (mkI m y).1=b
 omega
theorem cf_swo (m:List (Int × Mk)):SWO (ltOf (cfI m)):=
 ⟨fun x=>by simp only[ltOf,decide_eq_false_iff_not,cf_lt];omega,
  fun x y z=>by simp only[ltOf,decide_eq_true_eq,cf_lt];omega,
  fun x y z=>by simp only[ltOf,decide_eq_false_iff_not,cf_lt];omega⟩
theorem cf_eq (m:List (Int × Mk)) (x y:Int) (h1:ltOf (cfI m) x y=false) (h2:ltOf (cfI m) y x=false):x=y:=by
 simp only[ltOf,decide_eq_false_iff_not,cf_lt] at h1 h2
 omega
theorem sort_strict (m:List (Int × Mk)) (xs:List Int) (hn:xs.Nodup):(xs.mergeSort fun x y=>!(ltOf (cfI m)) y x).Pairwise (fun x y=>cfI m x y<0):=by
 have h1:(xs.mergeSort fun x y=>!(ltOf (cfI m)) y x).Pairwise (fun x y=>(!(ltOf (cfI m)) y x)=true):=
  List.pairwise_mergeSort (fun a b c=>by simp only[Bool.not_eq_true',ltOf,decide_eq_false_iff_not,cf_lt];omega) (fun a b=>by
   simp only[Bool.or_eq_true,Bool.not_eq_true',ltOf,decide_eq_false_iff_not,cf_lt];omega) xs
 have h2:(xs.mergeSort fun x y=>!(ltOf (cfI m)) y x).Nodup:=(List.mergeSort_perm xs _).nodup_iff.2 hn
 refine(h1.and h2).imp ?_
 rintro x y ⟨h,hne⟩
 simp only[Bool.not_eq_true',ltOf,decide_eq_false_iff_not,cf_lt] at h
 rw[cf_lt]
 omega
theorem in1_lays {W:World} {B b bm blk size:Nat} {m:List (Int × Mk)} {n:Int} (hB:W.cell? ⟨B,0,none⟩=some (.pointer (some ⟨b,0,none⟩))) (h:MarksAt W b bm m n) (h1:B<blk) (h2:b<blk) (h3:bm<blk) (hblk:blk<W.heap.size) :
  CmpLays1 Tryz.prog 216 #[.pointer (some ⟨B,0,none⟩)] encZ (cfI m) blk 0 size W:=by
 intro q os dk hs x y
 have hg:W.grownBy (sortWorld encZ W blk 0 q dk os) (some blk):=grownBy_sorted_i dk
 have hne:∀ k,k<blk->(sortWorld encZ W blk 0 q dk os).heap[k]?=W.heap[k]?:=fun k hk=>hg.block k (by omega) (fun e=>by cases e;omega)
 exact in1_any ((World.cell?_of_block (w:=W) (a:=⟨B,0,none⟩) (hne B h1)).trans hB) (h.kept (hne b h2) (hne bm h3)) x y
def SortPost (base:Nat) (W:World) (m:List (Int × Mk)) (v:Value) (xs:List Int) (e:Ending) (w':World):Prop:=
 e=.returned (.tuple #[])/\∃ l,l.Perm xs/\l.Pairwise (fun x y=>cfI m x y<0)/\ROwn encI 3 1 base w' v l/\Below base W w'
theorem sort_call {W:World} {B b bm base:Nat} {m:List (Int × Mk)} {n:Int} (hB:W.cell? ⟨B,0,none⟩=some (.pointer (some ⟨b,0,none⟩))) (h:MarksAt W b bm m n) (h1:B<base) (h2:b<base) (h3:bm<base) {v:Value} {xs:List Int} (hown:ROwn encI 3 1 base W v xs) (hn:xs.Nodup) (hxl:xs.length<=1000000) :
  Calls Tryz.prog 215 #[v,.func (.func 216) #[] #[.pointer (some ⟨B,0,none⟩)]] W (SortPost base W m v xs):=by
 have hown0:=hown
 unfold ROwn at hown
 rw[cellsI] at hown
 rcases hown.2 with ⟨rfl,hz⟩|⟨gb,cap,cur,rfl,hbase,hgb,r1,r2,r3,r4⟩
 ·have hss:xs=[]:=List.eq_nil_of_length_eq_zero hz
  subst hss
  have c:Calls Tryz.prog 215 #[.slice none 0 0,.func (.func 216) #[] #[.pointer (some ⟨B,0,none⟩)]] W fun e w'=>e=.returned (.tuple #[])/\w'=W:=
   AnyF.slices_SortFunc_none (ρ:=Tryz.sortFI_ren) { Tryz.sortFI with } none 0 _ W
  exact c.mono fun e w' ⟨he,hw⟩=>by subst hw;exact⟨he,[],List.Perm.refl _,List.Pairwise.nil,hown0,Below.refl _ _⟩
 ·have hH:Holds encZ W gb 0 xs.toArray:=holds_of_block_i hgb (by simpa using r4)
  have hgl:gb<W.heap.size:=(Array.getElem?_eq_some_iff.1 hgb).1
  have hsz:xs.toArray.size<4611686018427387904:=by simp;omega
  have c:Calls Tryz.prog 215 #[.slice (some ⟨gb,0,none⟩) xs.toArray.size cap,.func (.func 216) #[] #[.pointer (some ⟨B,0,none⟩)]] W fun e w'=>
    e=.returned (.tuple #[])/\∃ n os,w'=sortWorld encZ W gb 0 n (xs.toArray.toList.mergeSort fun x y=>!(ltOf (cfI m)) y x).toArray os:=
   Any.slices_SortFunc_total Tryz.sortFI encZ (fun _=>rfl) (cfI m) (cf_swo m) 216 #[.pointer (some ⟨B,0,none⟩)] gb 0 cap xs.toArray W (enters_of Tryz.func216 (by kernel_rfl) rfl)
    (in1_lays hB h (by omega) (by omega) (by omega) hgl) hH hgl hsz (cf_eq m)
  rw[List.size_toArray] at c
  refine c.mono fun e w' ⟨he,nn,os,hw⟩=>?_
  subst hw
  have hp:(xs.mergeSort fun x y=>!(ltOf (cfI m)) y x).Perm xs:=List.mergeSort_perm xs _
  refine⟨he,_,hp,sort_strict m xs hn,?_,(Below.refl base W).grown (grownBy_sorted_i _) (by omega) (fun j hj=>by cases hj;exact hbase)⟩
  unfold ROwn
  rw[cellsI,hp.length_eq]
  exact ownsRow_sorted_i hp.length_eq hbase hgb r1 r2 r3
def InPost (w:World) (m:List (Int × Mk)) (from_ to:Int) (e:Ending) (w':World):Prop:=
 ∃ v l,e=.returned v/\l.Nodup/\(∀ k,k ∈ l ↔ ∃ x,(k,x) ∈ m/\from_<=x.1/\x.1<=to)/\l.Pairwise (fun x y=>cfI m x y<0)/\ROwn encI 3 1 w.heap.size w' v l/\Below w.heap.size w w'
abbrev inW (w:World) (b:Nat):World:=w.alloc (.cells #[.pointer (some ⟨b,0,none⟩)] 106)
def Coll (m:List (Int × Mk)) (from_ to:Int) (todo xs:List Int):Prop:=xs.Nodup/\∀ k,k ∈ xs ↔ ∃ x,(k,x) ∈ m/\k ∉ todo/\from_<=x.1/\x.1<=to
theorem Coll.start (m:List (Int × Mk)) (from_ to:Int):Coll m from_ to (m.map (·.1)) []:=
 ⟨List.nodup_nil,fun k=>⟨fun h=>by simp at h,fun⟨x,h1,h2,_⟩=>absurd (List.mem_map.2 ⟨_,h1,rfl⟩) h2⟩⟩
theorem Coll.take {m:List (Int × Mk)} {from_ to id:Int} {v:Mk} {todo xs:List Int} (h:Coll m from_ to todo xs) (hn:(m.map (·.1)).Nodup) (hid:id ∈ todo) (hm:(id,v) ∈ m) (h1:from_<=v.1) (h2:v.1<=to):Coll m from_ to (todo.filter (· != id)) (xs++[id]):=by
 have hni:id ∉ xs:=fun hx=>by obtain⟨x,_,h2,_⟩:=(h.2 id).1 hx;exact h2 hid
 refine⟨List.nodup_append.2 ⟨h.1,by simp,fun a ha b hb e=>by simp at hb;subst hb;subst e;exact hni ha⟩,fun k=>?_⟩
 rw[List.mem_append,List.mem_singleton,h.2 k]
 constructor
 ·rintro (⟨x,a1,a2,a3⟩|rfl)
  ·exact⟨x,a1,fun hf=>a2 (List.mem_filter.1 hf).1,a3⟩
  ·exact⟨v,hm,fun hf=>by simpa using (List.mem_filter.1 hf).2,h1,h2⟩
 ·rintro ⟨x,a1,a2,a3⟩
  by_cases e:k=id
  ·exact .inr e
  ·exact .inl ⟨x,a1,fun hf=>a2 (List.mem_filter.2 ⟨hf,by simpa using e⟩),a3⟩
theorem Coll.skip {m:List (Int × Mk)} {from_ to id:Int} {v:Mk} {todo xs:List Int} (h:Coll m from_ to todo xs) (hn:(m.map (·.1)).Nodup) (hid:id ∈ todo) (hm:(id,v) ∈ m) (h1:¬(from_<=v.1/\v.1<=to)):Coll m from_ to (todo.filter (· != id)) xs:=by
 refine⟨h.1,fun k=>?_⟩
 rw[h.2 k]
 constructor
 ·rintro ⟨x,a1,a2,a3⟩
  exact⟨x,a1,fun hf=>a2 (List.mem_filter.1 hf).1,a3⟩
 ·rintro ⟨x,a1,a2,a3⟩
  by_cases e:k=id
  ·subst e
   have hx:(k,x)=(k,v):=inj_of_nodup hn a1 hm rfl
   cases hx
   exact absurd a3 h1
  ·exact⟨x,a1,fun hf=>a2 (List.mem_filter.2 ⟨hf,by simpa using e⟩),a3⟩
theorem nodup_len:∀(xs ys:List Int),xs.Nodup->xs ⊆ ys->xs.length<=ys.length
 | [],_,_,_=>by simp
 | x :: xs,ys,hn,hs=>by
   have hx:x ∈ ys:=hs List.mem_cons_self
   obtain⟨hnx,hn'⟩:=List.nodup_cons.1 hn
   have h1:xs ⊆ ys.erase x:=fun k hk=>(List.mem_erase_of_ne (fun(e:k=x)=>hnx (by rw[<-e];exact hk))).2 (hs (List.mem_cons_of_mem _ hk))
   have h2:=nodup_len xs (ys.erase x) hn' h1
   have h3:=List.length_erase_of_mem hx
   have h4:0<ys.length:=List.length_pos_of_mem hx
   simp only[List.length_cons]
   omega
theorem Coll.len {m:List (Int × Mk)} {from_ to:Int} {todo xs:List Int} (h:Coll m from_ to todo xs):xs.length<=m.length:=by
 have h1:xs ⊆ m.map (·.1):=fun k hk=>by obtain⟨x,hx,_⟩:=(h.2 k).1 hk;exact List.mem_map.2 ⟨_,hx,rfl⟩
 have:=nodup_len xs (m.map (·.1)) h.1 h1
 simpa using this
set_option maxRecDepth 100000 in
set_option maxHeartbeats 2000000 in
theorem in_any {w:World} {b bm:Nat} {m:List (Int × Mk)} {n:Int} (h:MarksAt w b bm m n) (from_ to:Int) (hl:m.length<=1000000):Calls Tryz.prog 151 #[.pointer (some ⟨b,0,none⟩),.int .i64 from_,.int .i64 to] w (InPost w m from_ to):=by
 have hB:=below1 w (.cells #[.pointer (some ⟨b,0,none⟩)] 106)
 have h1:=h.up hB
 have k0:(inW w b).cell? ⟨w.heap.size,0,none⟩=some (.pointer (some ⟨b,0,none⟩)):=by
  have e:=(MapKept.heap_alloc w (.cells #[.pointer (some ⟨b,0,none⟩)] 106)).1
  simp only[World.cell?,e];rfl
 have c0:=h1.c0
 obtain⟨w1,hrange,hir,hb1,hs1⟩:=h1.im.range (P:=Tryz.prog) mapT
 have hsz:(inW w b).heap.size=w.heap.size+1:=by simp
 rw[hsz] at hrange hir hs1 hb1
 have hbl:=h.im.lt
 have hblt:=h.lt
 have hnd:=h.im.nodup
 have HN:=qH hnd
 have HS:=qH hsz
 have HS1:=qH hs1
 clear hsz hnd hs1
 go_enter Tryz.func151,Tryz.ntmps151
 go_wp2_with (go_at_call 141;refine(made_any h1).mono ?_;rintro e w' ⟨rfl,rfl⟩)
 go_loopw [7] (fun vt wr=>∃ todo xs,IRange wr bm (w.heap.size+1) encM m todo/\Below (w.heap.size+1) (inW w b) wr/\ROwn encI 3 1 (w.heap.size+1+1) wr vt xs/\Coll m from_ to todo xs) (fun _ wr=>wr.rangeLeft bm (w.heap.size+1))
 case atStart=>exact⟨m.map (·.1),[],hir,hb1,ROwn.nil _ _,Coll.start m from_ to⟩
 case round=>
  clear hir hb1 hrange HS1 w1 c0
  obtain⟨todo,xs,hir,hbw,hown,hcoll⟩:=hrel
  have d0:=(hbw.cell (p:=⟨w.heap.size,0,none⟩) (by show w.heap.size<_;omega)).trans k0
  have hrl:=hir.lt
  have hmw:MarksAt wr b bm m n:=h1.below hbw (by omega) (by omega)
  have hxl:=hcoll.len
  clear k0
  rcases hir.next (P:=Tryz.prog) with ⟨rfl,hnx⟩|⟨id,v,w1,hk,hv,hnx,hir1,hg1,hsz1,hen⟩
  ·go_wp2_with fail
   refine(sort_call (base:=w.heap.size+1+1) d0 hmw (by omega) (by omega) (by omega) hown hcoll.1 (by omega)).mono ?_
   rintro e w2 ⟨rfl,l,hp,hs,hown2,hb2⟩
   go_wp2_with fail
   go_ret
   exact⟨_,l,rfl,hp.nodup_iff.2 hcoll.1,fun k=>by rw[hp.mem_iff,hcoll.2 k];simp,hs,hown2.low (by omega),hB.trans ((hbw.mono (by omega)).trans (hb2.mono (by omega)))⟩
  ·obtain⟨va,vb⟩:=v
   have HV:=qH hv
   have HK:=qH hk
   clear hv hk
   have hmem:(id,(va,vb)) ∈ m:=lookM_mem HV.out
   have HM:=qH hmem
   clear hmem
   have hl1:=hir.left
   have HL1:=qH hl1
   clear hl1
   have hal:=MapKept.heap_alloc w1 (.cells #[.int .i64 va,.bool vb] 164)
   have hgx:∀ j,j<w1.heap.size->j≠w.heap.size+1->(w1.alloc (.cells #[.int .i64 va,.bool vb] 164)).heap[j]?=wr.heap[j]?:=fun j hj hne=>(hal.2 j hj).trans (hg1.block j (by omega) (fun e=>hne (by cases e;rfl)))
   obtain⟨W2,hW2⟩:∃ W2,w1.alloc (.cells #[.int .i64 va,.bool vb] 164)=W2:=⟨_,rfl⟩
   have hir2:IRange W2 bm (w.heap.size+1) encM m (todo.filter (· != id)):=by
    rw[<-hW2];exact hir1.kept (hal.2 bm hir1.im.lt) (hal.2 _ hir1.lt)
   have hbw2:Below (w.heap.size+1) (inW w b) W2:=by
    refine hbw.trans ⟨?_,?_,?_,?_,?_⟩
    ·rw[<-hW2];exact hg1.os
    ·rw[<-hW2];exact hg1.tape
    ·rw[<-hW2];exact hg1.output
    ·rw[<-hW2];simp;omega
    ·intro j hj;rw[<-hW2];exact hgx j (by omega) (by omega)
   have hown2:=hown.kept (w':=W2) fun g hg=>by
    rw[<-hW2];exact hgx g (by have:=hown.lt hg;omega) (by have:=hown.base hg;omega)
   have hzW:w.heap.size+1<W2.heap.size:=hir2.lt
   have hzW2:w.heap.size+1+1<=W2.heap.size:=hzW
   have x0:W2.cell? ⟨wr.heap.size,0,none⟩=some (.int .i64 va):=by rw[<-hsz1,<-hW2];simp only[World.cell?,hal.1];rfl
   have x1:W2.cell? ⟨wr.heap.size,1,none⟩=some (.bool vb):=by rw[<-hsz1,<-hW2];simp only[World.cell?,hal.1];rfl
   have hl2:=hir2.left
   have HL2:=qH hl2
   clear d0 hgx hal hown hl2
   by_cases hr:from_<=va/\va<=to
   ·obtain⟨q1,q2⟩:=hr
    obtain⟨v',w',happ,hown',hb',ho',_⟩:=append_elem eltI hown2 hzW2 id (by omega) (by omega)
    have hir3:IRange w' bm (w.heap.size+1) encM m (todo.filter (· != id)):=hir2.kept (hb'.block bm (by omega)) (hb'.block _ (by omega))
    have hbw3:Below (w.heap.size+1) (inW w b) w':=hbw2.trans (hb'.mono (by omega))
    have hl3:=hir3.left
    have HL3:=qH hl3
    have HP:=qH happ
    clear happ hl3 hown2 hir2 hbw2 hb' ho'
    go_wp2_with (at_builtin;refine wpList_app_run rfl _ _ _ rfl rfl rfl HP.out ?_)
    go_roundw
    case rel=>exact⟨todo.filter (· != id),xs++[id],hir3,hbw3,hown',hcoll.take HN.out HK.out HM.out q1 q2⟩
    case measure=>
     rw[HL3.out,HL1.out]
     exact filter_lt_of_mem HK.out
   ·have hsk:=hcoll.skip HN.out HK.out HM.out hr
    by_cases q1:from_<=va
    ·have q2:to<va:=by omega
     clear hr
     go_wp2_with fail
     go_roundw
     case rel=>exact⟨todo.filter (· != id),xs,hir2,hbw2,hown2,hsk⟩
     case measure=>
      rw[HL2.out,HL1.out]
      exact filter_lt_of_mem HK.out
    ·have q2:va<from_:=by omega
     clear hr q1
     go_wp2_with fail
     go_roundw
     case rel=>exact⟨todo.filter (· != id),xs,hir2,hbw2,hown2,hsk⟩
     case measure=>
      rw[HL2.out,HL1.out]
      exact filter_lt_of_mem HK.out
end Go.Proofs.YtkpoodjhjfmfjaaGreatDoor.Mks
