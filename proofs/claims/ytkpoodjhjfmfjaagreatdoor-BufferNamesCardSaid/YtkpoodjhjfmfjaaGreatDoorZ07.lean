/- A part. -/
import Derived.Test.YtkpoodjhjfmfjaaGreatDoorZ06
import Derived.Test.YtkpoodjhjfmfjaaGreatDoorZ05
import Derived.Test.YtkpoodjhjfmfjaaGreatDoorZ00
import Derived.Test.YtkpoodjhjfmfjaaGreatDoorZ01
import Derived.ArgAppend
set_option linter.unusedVariables false
set_option linter.unusedSimpArgs false
namespace Go.Proofs.YtkpoodjhjfmfjaaGreatDoor
open Go.RowKit
structure ChkAt (w:World) (P:Prop) (c:Chk):Prop where
 en:Enters c.F
 run:P->∀ w1,Below w.heap.size w w1->Calls Tryz.prog c.F (c.bd++c.cp) w1 fun r w2=>r=.returned (.int .i64 c.e)/\Below w1.heap.size w1 w2
section
variable {w w' : World} {P : Prop} {c : Chk}
theorem ChkAt.up (h:ChkAt w P c) (hb:Below w.heap.size w w'):ChkAt w' P c:=⟨h.en,fun p w1 hb1=>h.run p w1 (up2 hb hb1)⟩
theorem al2 (w:World) (x y:Value) (T U:TypeId):((w.alloc (.cells #[x] T)).alloc (.cells #[y] U)).cell? ⟨w.heap.size,0,none⟩=some x/\((w.alloc (.cells #[x] T)).alloc (.cells #[y] U)).cell? ⟨w.heap.size+1,0,none⟩=some y:=by
 have h0:(w.alloc (.cells #[x] T)).heap.size=w.heap.size+1:=by simp
 constructor
 ·rw[World.cell?_of_block (w:=w.alloc (.cells #[x] T)) (a:=⟨w.heap.size,0,none⟩) ((MapKept.heap_alloc _ _).2 _ (by simp))]
  simp only[World.cell?,(MapKept.heap_alloc w (.cells #[x] T)).1]
  rfl
 ·have:=(MapKept.heap_alloc (w.alloc (.cells #[x] T)) (.cells #[y] U)).1
  rw[h0] at this
  simp only[World.cell?,this]
  rfl
theorem below2 (w:World) (x y:Obj):Below w.heap.size w ((w.alloc x).alloc y):=(below1 w x).alloc (by simp) y
set_option maxHeartbeats 1000000 in
theorem unless_ok (e:Int) (F:FuncId) (bd cp:Array Value) (w:World):Calls Tryz.prog 81 #[.int .i64 e,.func (.func F) bd cp] w fun r w'=>
  r=.returned (.func (.func 161) #[] #[.pointer (some ⟨w.heap.size+1,0,none⟩),.pointer (some ⟨w.heap.size,0,none⟩)])/\Below w.heap.size w w' /\
  w'.cell? ⟨w.heap.size,0,none⟩=some (.int .i64 e)/\w'.cell? ⟨w.heap.size+1,0,none⟩=some (.func (.func F) bd cp):=by
 go_enter Tryz.func81,Tryz.ntmps81
 go_wp2_with fail
 go_ret
 exact⟨rfl,below2 w _ _,(al2 w _ _ _ _).1,(al2 w _ _ _ _).2⟩
set_option maxHeartbeats 1000000 in
theorem unless1_ok {e:Int} {F:FuncId} {bd cp:Array Value} {p:Bool} {be bf:Nat} (hF:Enters F) (he:w.cell? ⟨be,0,none⟩=some (.int .i64 e)) (hf:w.cell? ⟨bf,0,none⟩=some (.func (.func F) bd cp))
  (hc:Calls Tryz.prog F (bd++cp) w fun r w2=>r=.returned (.bool p)/\Below w.heap.size w w2) :
  Calls Tryz.prog 161 #[.pointer (some ⟨bf,0,none⟩),.pointer (some ⟨be,0,none⟩)] w fun r w2=>r=.returned (.int .i64 (if p then 0 else e))/\Below w.heap.size w w2:=by
 have hin:∀(args:Array Value) (w:World),(callFunc F args).run Tryz.prog w=.ok (.enter F args) w:=hF
 have HC:=qH hc
 have HE:=qH he
 clear hc hF he
 go_enter Tryz.func161,Tryz.ntmps161
 go_wp2_with fail
 refine HC.out.mono ?_
 rintro r w1 ⟨rfl,hb1⟩
 have he1:w1.cell? ⟨be,0,none⟩=some (.int .i64 e):=(World.cell?_of_block (w:=w) (a:=⟨be,0,none⟩) (hb1.block _ (lt_of_cell HE.out))).trans HE.out
 cases p with
 | true=>
   go_wp2_with fail
   go_ret
   exact⟨rfl,hb1⟩
 | false=>
   go_wp2_with fail
   go_ret
   exact⟨rfl,hb1⟩
abbrev unlC (be bf:Nat) (e:Int):Chk:=⟨161,#[],#[.pointer (some ⟨bf,0,none⟩),.pointer (some ⟨be,0,none⟩)],e⟩
theorem ChkAt.unless {e:Int} {F:FuncId} {bd cp:Array Value} {p:Bool} {be bf:Nat} (hF:Enters F) (he:w.cell? ⟨be,0,none⟩=some (.int .i64 e)) (hf:w.cell? ⟨bf,0,none⟩=some (.func (.func F) bd cp))
  (hc:P->∀ w1,Below w.heap.size w w1->Calls Tryz.prog F (bd++cp) w1 fun r w2=>r=.returned (.bool p)/\Below w1.heap.size w1 w2):ChkAt w P (unlC be bf (if p then 0 else e)):=
 ⟨enters_mk Tryz.func161 (by kernel_rfl) rfl,fun hp w1 hb=>by
  have:=unless1_ok (w:=w1) (be:=be) (bf:=bf) hF ((World.cell?_of_block (w:=w) (a:=⟨be,0,none⟩) (hb.block _ (lt_of_cell he))).trans he) ((World.cell?_of_block (w:=w) (a:=⟨bf,0,none⟩) (hb.block _ (lt_of_cell hf))).trans hf) (hc hp w1 hb)
  exact this⟩
structure BS where
 pt:Nat
 lo:Nat
 hi:Nat
 mark:Nat
 marked:Bool
 ro:Bool
 fo:Bool
 tick:Nat
 clean:Nat
 t:Nat
 m:Nat
 p:Nat
 o:Nat
 l:Nat
 logs:Bool
 empty:Bool
 lock:Int
 saved:Value
 tokens:Nat
abbrev pAt (b:Nat):Value:=.pointer (some ⟨b,0,none⟩)
abbrev bufC (S:BS):Array Value:=#[.int .i64 S.pt,.int .i64 S.lo,.int .i64 S.hi,.int .i64 S.mark,.bool S.marked,.bool S.ro,.bool S.fo,.int .i64 S.tick,.int .i64 S.clean,pAt S.t,pAt S.m,pAt S.p,pAt S.o,pAt S.l,.bool S.logs,.bool S.empty,.int .i64 S.lock,S.saved,.int .i64 S.tokens]
abbrev BufB (w:World) (b:Nat) (S:BS):Prop:=Blk w b 112 (bufC S)
variable {b : Nat} {S : BS}
set_option maxHeartbeats 1000000 in
theorem reach_ok (h:BufB w b S) (x y:Int):Calls Tryz.prog 146 #[pAt b,.int .i64 x,.int .i64 y] w fun r w2=>r=.returned (.bool (decide ((S.lo:Int)<=x) && decide (x<=y) && decide (y<=(S.hi:Int))))/\w=w2:=by
 obtain⟨lo,hlo⟩:∃ lo:Int,(S.lo:Int)=lo:=⟨_,rfl⟩
 obtain⟨hi,hhi⟩:∃ hi:Int,(S.hi:Int)=hi:=⟨_,rfl⟩
 have c1:w.cell? ⟨b,1,none⟩=some (.int .i64 (S.lo:Int)):=h.cell (j:=1) rfl
 have c2:w.cell? ⟨b,2,none⟩=some (.int .i64 (S.hi:Int)):=h.cell (j:=2) rfl
 rw[hlo] at c1 ⊢
 rw[hhi] at c2 ⊢
 clear h hlo hhi
 cases d1:decide (lo<=x)<;>cases d2:decide (x<=y)<;>cases d3:decide (y<=hi)
 all_goals
  go_enter Tryz.func146,Tryz.ntmps146
  go_wp2_with fail
  go_ret
  exact⟨rfl,rfl⟩
end
end Go.Proofs.YtkpoodjhjfmfjaaGreatDoor
namespace Go.Proofs.YtkpoodjhjfmfjaaGreatDoor
open Go.RowKit
section
variable {w w' : World} {P : Prop} {c : Chk} {b : Nat} {S : BS}
theorem al3 (w:World) (x y z:Value) (T U V:TypeId) :
  (((w.alloc (.cells #[x] T)).alloc (.cells #[y] U)).alloc (.cells #[z] V)).cell? ⟨w.heap.size,0,none⟩=some x/\(((w.alloc (.cells #[x] T)).alloc (.cells #[y] U)).alloc (.cells #[z] V)).cell? ⟨w.heap.size+1,0,none⟩=some y /\
  (((w.alloc (.cells #[x] T)).alloc (.cells #[y] U)).alloc (.cells #[z] V)).cell? ⟨w.heap.size+2,0,none⟩=some z:=by
 have h1:=(al2 w x y T U).1
 have h2:=(al2 (w.alloc (.cells #[x] T)) y z U V)
 have e1:(w.alloc (.cells #[x] T)).heap.size=w.heap.size+1:=by simp
 rw[e1] at h2
 refine⟨?_,h2.1,h2.2⟩
 rw[World.cell?_of_block (w:=(w.alloc (.cells #[x] T)).alloc (.cells #[y] U)) (a:=⟨w.heap.size,0,none⟩) ((MapKept.heap_alloc _ _).2 _ (by simp;omega))]
 exact h1
theorem below3 (w:World) (x y z:Obj):Below w.heap.size w (((w.alloc x).alloc y).alloc z):=(below2 w x y).alloc (by simp;omega) z
theorem cell_up {w w':World} {k j:Nat} {v:Value} (h:w.cell? ⟨k,j,none⟩=some v) (hb:Below w.heap.size w w'):w'.cell? ⟨k,j,none⟩=some v:=(World.cell?_of_block (w:=w) (a:=⟨k,j,none⟩) (hb.block _ (lt_of_cell h))).trans h
def reachB (S:BS) (x y:Int):Bool:=decide ((S.lo:Int)<=x) && decide (x<=y) && decide (y<=(S.hi:Int))
set_option maxHeartbeats 1000000 in
theorem within1_ok {k0 k1 k2:Nat} (h:BufB w b S) (x y:Int) (h0:w.cell? ⟨k0,0,none⟩=some (pAt b)) (h1:w.cell? ⟨k1,0,none⟩=some (.int .i64 x)) (h2:w.cell? ⟨k2,0,none⟩=some (.int .i64 y)) :
  Calls Tryz.prog 145 #[pAt k0,pAt k1,pAt k2] w fun r w2=>r=.returned (.bool (reachB S x y))/\Below w.heap.size w w2:=by
 have HR:=qH (reach_ok h x y)
 clear h
 go_enter Tryz.func145,Tryz.ntmps145
 go_wp2_with fail
 refine HR.out.mono ?_
 rintro r w1 ⟨rfl,rfl⟩
 go_wp2_with fail
 go_ret
 exact⟨rfl,Below.refl _ _⟩
set_option maxHeartbeats 1000000 in
theorem within_ok (h:BufB w b S) (x y:Int):Calls Tryz.prog 76 #[pAt b,.int .i64 x,.int .i64 y] w fun r w'=>
  ∃ ke kf,r=.returned (unlC ke kf (if reachB S x y then 0 else 3)).val/\Below w.heap.size w w'/\ChkAt w' True (unlC ke kf (if reachB S x y then 0 else 3)):=by
 have HB:=qH h
 clear h
 obtain⟨E,hE⟩:∃ E:Int,(if reachB S x y then (0:Int) else 3)=E:=⟨_,rfl⟩
 rw[hE]
 have HE:=qH hE
 clear hE
 go_enter Tryz.func76,Tryz.ntmps76
 go_wp2_with fail
 have hb3:=below3 w (.cells #[pAt b] 22) (.cells #[.int .i64 x] 3) (.cells #[.int .i64 y] 3)
 obtain⟨a0,a1,a2⟩:=al3 w (pAt b) (.int .i64 x) (.int .i64 y) 22 3 3
 generalize ((w.alloc (.cells #[pAt b] 22)).alloc (.cells #[.int .i64 x] 3)).alloc (.cells #[.int .i64 y] 3)=W at *
 refine(unless_ok 3 145 #[] #[pAt w.heap.size,pAt (w.heap.size+1),pAt (w.heap.size+2)] W).mono ?_
 rintro r w1 ⟨rfl,hb1,he,hf⟩
 go_wp2_with fail
 go_ret
 refine⟨_,_,rfl,up2 hb3 hb1,HE.out▸ChkAt.unless (p:=reachB S x y) (enters_mk Tryz.func145 (by kernel_rfl) rfl) he hf fun _ w2 hb2=>?_⟩
 exact within1_ok (((HB.out.up hb3).up hb1).up hb2) x y (cell_up a0 (up2 hb1 hb2)) (cell_up a1 (up2 hb1 hb2)) (cell_up a2 (up2 hb1 hb2))
set_option maxHeartbeats 1000000 in
theorem bnoneB (h:BufB w b S):Calls Tryz.prog 74 #[pAt b] w fun e w'=>e=.returned (.bool false)/\w=w':=by
 have c9:=h.cell (j:=9) rfl
 clear h
 go_enter Tryz.func74,Tryz.ntmps74
 go_wp2_with fail
 go_ret
 exact⟨rfl,rfl⟩
set_option maxHeartbeats 1000000 in
theorem made_ok (h:BufB w b S):Calls Tryz.prog 70 #[pAt b] w fun e w'=>e=.returned (.int .i64 0)/\w=w':=by
 have HN:=qH (bnoneB h)
 clear h
 go_enter Tryz.func70,Tryz.ntmps70
 go_wp2_with fail
 refine HN.out.mono ?_
 rintro e w' ⟨rfl,rfl⟩
 go_wp2_with fail
 go_ret
 exact⟨rfl,rfl⟩
abbrev madeC (b:Nat):Chk:=⟨70,#[pAt b],#[],0⟩
theorem ChkAt.made (h:BufB w b S):ChkAt w True (madeC b):=⟨enters_mk Tryz.func70 (by kernel_rfl) rfl,fun _ w1 hb=>(made_ok (h.up hb)).mono fun _ _ ⟨h1,h2⟩=>⟨h1,h2▸Below.refl _ _⟩⟩
def fitsE (s:ByteArray) (n:Nat) (less:Int):Int:=if vld s=true then (if (65536:Int)<(n:Int) - less+rlenG s then 4 else 0) else 5
set_option maxHeartbeats 1000000 in
theorem fits1_ok {N k0 k1 k2 n:Nat} (hT:Tabs N w) (h:BufB w b S) (s:ByteArray) (hs:s.size<=1000000) (less:Int) (hl0:-1000000000000<=less) (hl1:less<=1000000000000) (hn:n<=1000000)
  (hS:∀ w1,Below w.heap.size w w1->Calls Tryz.prog 100 #[pAt S.t] w1 fun r w2=>r=.returned (.int .i64 n)/\Below w1.heap.size w1 w2)
  (h0:w.cell? ⟨k0,0,none⟩=some (.string s)) (h1:w.cell? ⟨k1,0,none⟩=some (pAt b)) (h2:w.cell? ⟨k2,0,none⟩=some (.int .i64 less)) :
  Calls Tryz.prog 167 #[pAt k0,pAt k1,pAt k2] w fun r w2=>r=.returned (.int .i64 (fitsE s n less))/\Below w.heap.size w w2:=by
 have hV:=valid_any s w (by omega) hT
 have HT:=qH hT
 have HB:=qH h
 have HS:=qH hS
 have HH0:=qH h0
 have HH1:=qH h1
 have HH2:=qH h2
 unfold fitsE
 clear hT h hS h1 h2
 cases hv:vld s with
 | false=>
   rw[hv] at hV
   go_enter Tryz.func167,Tryz.ntmps167
   go_wp2_with fail
   refine hV.mono ?_
   rintro r w1 ⟨rfl,hb1⟩
   go_wp2_with fail
   go_ret
   exact⟨rfl,hb1⟩
 | true=>
   rw[hv] at hV
   have hlen:rlenG s<=s.size:=by
    have:=rlenG_chars (s:=s) (by rw[<-vld_chars];exact hv)
    have:=chrs_len s
    omega
   have HVV:=qH hv
   rw[if_pos rfl]
   obtain⟨R,hR⟩:∃ R:Int,R=if (65536:Int)<(n:Int) - less+rlenG s then 4 else 0:=⟨_,rfl⟩
   rw[<-hR]
   have HR:=qH hR
   clear hv hR
   go_enter Tryz.func167,Tryz.ntmps167
   go_wp2_with fail
   refine hV.mono ?_
   rintro r w1 ⟨rfl,hb1⟩
   clear hV h0
   have HB1:=qH hb1
   clear hb1
   go_wp2_with fail
   have q0:∀ x:UpW w1.heap.size w1,x.w.cell? ⟨k0,0,none⟩=some (.string s):=fun x=>cell_up HH0.out (up2 HB1.out x.up)
   have q1:∀ x:UpW w1.heap.size w1,x.w.cell? ⟨k1,0,none⟩=some (pAt b):=fun x=>cell_up HH1.out (up2 HB1.out x.up)
   have q2:∀ x:UpW w1.heap.size w1,x.w.cell? ⟨k2,0,none⟩=some (.int .i64 less):=fun x=>cell_up HH2.out (up2 HB1.out x.up)
   have q9:∀ x:UpW w1.heap.size w1,x.w.cell? ⟨b,9,none⟩=some (pAt S.t):=fun x=>((HB.out.up HB1.out).up x.up).cell (j:=9) rfl
   have s1:IntKind.i64.wrap ((n:Int) - less)=(n:Int) - less:=IntWalk.i64_in _ (by omega)
   have s2:IntKind.i64.wrap ((n:Int) - less+rlenG s)=(n:Int) - less+rlenG s:=IntWalk.i64_in _ (by omega)
   have HSS:=qH fun(x:UpW w1.heap.size w1)=>HS.out x.w (up2 HB1.out x.up)
   have HLL:=qH fun(x:UpW w1.heap.size w1)=>runesLen s x.w (by omega) ((HT.out.up HB1.out).up x.up)
   refine wp_region_up w1.heap.size (by kernel_rfl) (by kernel_rfl) ?_
   repeat (go_big_quiet_step (first|exact Calls.up ‹_› (Nat.le_refl _) (HSS.out _)|exact Calls.up ‹_› (Nat.le_refl _) (HLL.out _)))
   refine wpQuiet_nil ?_
   rintro ⟨w2,hb2⟩
   dsimp only
   clear q0 q1 q2 q9
   by_cases hlt:(65536:Int)<(n:Int) - less+rlenG s
   ·have d1:decide ((65536:Int)<(n:Int) - less+rlenG s)=true:=decide_eq_true hlt
    have hr:R=4:=by rw[HR.out,if_pos hlt]
    subst hr
    go_wp2_with fail
    go_ret
    exact⟨rfl,up2 HB1.out hb2⟩
   ·have d1:decide ((65536:Int)<(n:Int) - less+rlenG s)=false:=decide_eq_false hlt
    have hr:R=0:=by rw[HR.out,if_neg hlt]
    subst hr
    go_wp2_with fail
    go_ret
    exact⟨rfl,up2 HB1.out hb2⟩
abbrev fitC (k0 k1 k2:Nat) (e:Int):Chk:=⟨167,#[],#[pAt k0,pAt k1,pAt k2],e⟩
set_option maxHeartbeats 1000000 in
theorem fits_ok {N n:Nat} (hT:Tabs N w) (h:BufB w b S) (s:ByteArray) (hs:s.size<=1000000) (less:Int) (hn:n<=1000000)
  (hS:∀ w1,Below w.heap.size w w1->Calls Tryz.prog 100 #[pAt S.t] w1 fun r w2=>r=.returned (.int .i64 n)/\Below w1.heap.size w1 w2) :
  Calls Tryz.prog 90 #[pAt b,.string s,.int .i64 less] w fun r w'=>∃ k0 k1 k2,r=.returned (fitC k0 k1 k2 (fitsE s n less)).val/\Below w.heap.size w w'/\ChkAt w' (-1000000000000<=less/\less<=1000000000000) (fitC k0 k1 k2 (fitsE s n less)):=by
 have HT:=qH hT
 have HB:=qH h
 have HS:=qH hS
 clear hT h hS
 obtain⟨E,hE⟩:∃ E:Int,fitsE s n less=E:=⟨_,rfl⟩
 rw[hE]
 have HE:=qH hE
 clear hE
 go_enter Tryz.func90,Tryz.ntmps90
 go_wp2_with fail
 go_ret
 have hb3:=below3 w (.cells #[pAt b] 22) (.cells #[.string s] 9) (.cells #[.int .i64 less] 3)
 obtain⟨a0,a1,a2⟩:=al3 w (pAt b) (.string s) (.int .i64 less) 22 9 3
 generalize ((w.alloc (.cells #[pAt b] 22)).alloc (.cells #[.string s] 9)).alloc (.cells #[.int .i64 less] 3)=W at *
 refine⟨_,_,_,rfl,hb3,enters_mk Tryz.func167 (by kernel_rfl) rfl,fun⟨p1,p2⟩ w1 hb1=>?_⟩
 rw[<-HE.out]
 exact fits1_ok ((HT.out.up hb3).up hb1) ((HB.out.up hb3).up hb1) s hs less p1 p2 hn (fun w2 hb2=>HS.out w2 (up2 hb3 (up2 hb1 hb2))) (cell_up a1 hb1) (cell_up a0 hb1) (cell_up a2 hb1)
end
end Go.Proofs.YtkpoodjhjfmfjaaGreatDoor
namespace Go.Proofs.YtkpoodjhjfmfjaaGreatDoor
open Go.RowKit
abbrev wordV (x:Int × Int):Value:=.agg #[.int .i64 x.1,.int .i64 x.2]
def getV (o:Option (Int × Int)):Value:=.tuple #[wordV (o.getD (0,0)),.bool o.isSome]
def GetAt (w:World) (p:Nat) (f:Int->Int->Option (Int × Int)):Prop:=∀(at_ name:Int) (w1:World),Below w.heap.size w w1->Calls Tryz.prog 86 #[pAt p,.int .i64 at_,.int .i64 name] w1 fun r w2=>r=.returned (getV (f at_ name))/\Below w1.heap.size w1 w2
def lockB (o:Option (Int × Int)):Bool:=match o with|none=>false|some x=>!(x ==(1,0))
section
variable {w w' : World} {b : Nat} {S : BS} {f : Int → Int → Option (Int × Int)}
theorem GetAt.up {p:Nat} (h:GetAt w p f) (hb:Below w.heap.size w w'):GetAt w' p f:=fun a n w1 hb1=>h a n w1 (up2 hb hb1)
set_option maxRecDepth 100000 in
set_option maxHeartbeats 2000000 in
theorem locked_ok (h:BufB w b S) (hG:GetAt w S.p f) (at_:Int):Calls Tryz.prog 148 #[pAt b,.int .i64 at_] w fun r w2=>r=.returned (.bool (lockB (f at_ S.lock)))/\Below w.heap.size w w2:=by
 have C11:∀ x:UpW w.heap.size w,x.w.cell? ⟨b,11,none⟩=some (pAt S.p):=fun x=>(h.up x.up).cell (j:=11) rfl
 have C16:∀ x:UpW w.heap.size w,x.w.cell? ⟨b,16,none⟩=some (.int .i64 S.lock):=fun x=>(h.up x.up).cell (j:=16) rfl
 have HG:=qH fun(w1:World) (hb:Below w.heap.size w w1)=>hG at_ S.lock w1 hb
 clear h hG
 obtain⟨R,hR⟩:∃ R,lockB (f at_ S.lock)=R:=⟨_,rfl⟩
 rw[hR]
 have HR:=qH hR
 clear hR
 have hb0:=below1 w
 go_enter Tryz.func148,Tryz.ntmps148
 go_wp2_with fail
 refine wp_region_mixT w.heap.size 16 (.two [0,1,2,3,4,5,6,7,8] 9 (.one [10,11,12] 13 (.one [] 14 (.done [15]))) 13 (.one [] 9 (.one [10,11,12] 14 (.done [15])))) (by kernel_rfl) (fun c d v a w h=>by cases d<;>exact h) (by kernel_rfl) ?_
 simp only[wpMixT,pk_nil,pk_cons,pushAt_zero,pushAt_succ,List.drop_succ_cons,List.drop_zero]
 repeat (go_big_quiet_step (fail))
 refine wpQuiet_nil ?_
 clear C11 C16
 cases ho:f at_ S.lock with
 | none=>
   have HG1:∀ w1,Below w.heap.size w w1->Calls Tryz.prog 86 #[pAt S.p,.int .i64 at_,.int .i64 S.lock] w1 fun r w2=>r=.returned (.tuple #[.agg #[.int .i64 0,.int .i64 0],.bool false])/\Below w1.heap.size w1 w2:=fun w1 hb=>by have:=HG.out w1 hb;rw[ho] at this;exact this
   have HG:=qH HG1
   clear HG1
   have hRf:R=false:=by rw[<-HR.out,ho];rfl
   subst hRf
   refine⟨?_,?_⟩
   ·go_wp2_with fail
    refine(HG.out _ (Below.refl _ w).drew).mono ?_
    rintro r w1 ⟨rfl,hb1⟩
    have hb1':Below w.heap.size w w1:=up2 (Below.refl _ w).drew hb1
    go_wp2_with fail
    refine thenQ_normal ⟨⟨⟨_,hb1'⟩,rfl⟩,?_⟩
    repeat (go_big_quiet_step (fail))
    refine wpQuiet_nil ?_
    go_wp2_with fail
    refine thenQ_normal ⟨⟨⟨_,hb1'.alloc hb1'.size _⟩,rfl⟩,?_⟩
    refine wpQuiet_nil ?_
    go_wp2_with fail
    refine thenQ_normal ⟨⟨⟨_,hb1'.alloc hb1'.size _⟩,rfl⟩,?_⟩
    repeat (go_big_quiet_step (fail))
    refine wpQuiet_nil ?_
    go_wp2_with fail
    go_ret
    exact⟨rfl,hb1'.alloc hb1'.size _⟩
   ·go_wp2_with fail
    refine thenQ_normal ⟨⟨⟨_,(Below.refl _ w).drew.alloc (Nat.le_refl _) _⟩,rfl⟩,?_⟩
    refine wpQuiet_nil ?_
    have hk:Blk (w.drew.alloc (.cells #[.int .i64 0,.int .i64 0] 31)) w.heap.size 31 #[.int .i64 0,.int .i64 0]:=Blk.made w.drew 31 #[.int .i64 0,.int .i64 0]
    have hbk:Below w.heap.size w (w.drew.alloc (.cells #[.int .i64 0,.int .i64 0] 31)):=(Below.refl _ w).drew.alloc (Nat.le_refl _) _
    go_wp2_with fail
    refine(HG.out _ hbk).mono ?_
    rintro r w1 ⟨rfl,hb1⟩
    have hb1':Below w.heap.size w w1:=up2 hbk hb1
    have hk1:=hk.up hb1
    have k0:=hk1.cell (j:=0) rfl
    have k1:=hk1.cell (j:=1) rfl
    have f0:=hk1.fz 0
    have f1:=hk1.fz 1
    go_wp2_with fail
    refine thenQ_normal ⟨⟨⟨_,hb1'⟩,rfl⟩,?_⟩
    repeat (go_big_quiet_step (fail))
    refine wpQuiet_nil ?_
    go_wp2_with fail
    refine thenQ_normal ⟨⟨⟨_,(hb1'.setCell (p:=⟨w.heap.size,0,none⟩) (Nat.le_refl _) _).setCell (p:=⟨w.heap.size,1,none⟩) (Nat.le_refl _) _⟩,rfl⟩,?_⟩
    repeat (go_big_quiet_step (fail))
    refine wpQuiet_nil ?_
    clear k0 k1 f0 f1
    have hbn:=(hb1'.setCell (p:=⟨w.heap.size,0,none⟩) (Nat.le_refl _) (.int .i64 0)).setCell (p:=⟨w.heap.size,1,none⟩) (Nat.le_refl _) (.int .i64 0)
    have hk2:=(hk1.set (j:=0) (by simp) (.int .i64 0)).set (j:=1) (by simp) (.int .i64 0)
    have k0:=hk2.cell (j:=0) rfl
    have k1:=hk2.cell (j:=1) rfl
    generalize (w1.setCell ⟨w.heap.size,0,none⟩ (.int .i64 0)).setCell ⟨w.heap.size,1,none⟩ (.int .i64 0)=w3 at *
    go_wp2_with fail
    go_ret
    exact⟨rfl,hbn⟩
 | some x=>
   obtain⟨xk,xn⟩:=x
   have HG1:∀ w1,Below w.heap.size w w1->Calls Tryz.prog 86 #[pAt S.p,.int .i64 at_,.int .i64 S.lock] w1 fun r w2=>r=.returned (.tuple #[.agg #[.int .i64 xk,.int .i64 xn],.bool true])/\Below w1.heap.size w1 w2:=fun w1 hb=>by have:=HG.out w1 hb;rw[ho] at this;exact this
   have HG:=qH HG1
   clear HG1
   have hRf:R=!((xk,xn) ==((1,0):Int × Int)):=by rw[<-HR.out,ho];rfl
   by_cases hk1:xk=1
   ·by_cases hn0:xn=0
    ·subst hk1 hn0
     have hRt:R=false:=by rw[hRf];rfl
     clear hRf
     subst hRt
     refine⟨?_,?_⟩
     ·go_wp2_with fail
      refine(HG.out _ (Below.refl _ w).drew).mono ?_
      rintro r w1 ⟨rfl,hb1⟩
      have hb1':Below w.heap.size w w1:=up2 (Below.refl _ w).drew hb1
      go_wp2_with fail
      refine thenQ_normal ⟨⟨⟨_,hb1'⟩,rfl⟩,?_⟩
      repeat (go_big_quiet_step (fail))
      refine wpQuiet_nil ?_
      go_wp2_with fail
      refine thenQ_normal ⟨⟨⟨_,hb1'.alloc hb1'.size _⟩,rfl⟩,?_⟩
      refine wpQuiet_nil ?_
      go_wp2_with fail
      refine thenQ_normal ⟨⟨⟨_,hb1'.alloc hb1'.size _⟩,rfl⟩,?_⟩
      repeat (go_big_quiet_step (fail))
      refine wpQuiet_nil ?_
      go_wp2_with fail
      go_ret
      exact⟨rfl,hb1'.alloc hb1'.size _⟩
     ·go_wp2_with fail
      refine thenQ_normal ⟨⟨⟨_,(Below.refl _ w).drew.alloc (Nat.le_refl _) _⟩,rfl⟩,?_⟩
      refine wpQuiet_nil ?_
      have hk:Blk (w.drew.alloc (.cells #[.int .i64 0,.int .i64 0] 31)) w.heap.size 31 #[.int .i64 0,.int .i64 0]:=Blk.made w.drew 31 #[.int .i64 0,.int .i64 0]
      have hbk:Below w.heap.size w (w.drew.alloc (.cells #[.int .i64 0,.int .i64 0] 31)):=(Below.refl _ w).drew.alloc (Nat.le_refl _) _
      go_wp2_with fail
      refine(HG.out _ hbk).mono ?_
      rintro r w1 ⟨rfl,hb1⟩
      have hb1':Below w.heap.size w w1:=up2 hbk hb1
      have hk1:=hk.up hb1
      have k0:=hk1.cell (j:=0) rfl
      have k1:=hk1.cell (j:=1) rfl
      have f0:=hk1.fz 0
      have f1:=hk1.fz 1
      go_wp2_with fail
      refine thenQ_normal ⟨⟨⟨_,hb1'⟩,rfl⟩,?_⟩
      repeat (go_big_quiet_step (fail))
      refine wpQuiet_nil ?_
      go_wp2_with fail
      refine thenQ_normal ⟨⟨⟨_,(hb1'.setCell (p:=⟨w.heap.size,0,none⟩) (Nat.le_refl _) _).setCell (p:=⟨w.heap.size,1,none⟩) (Nat.le_refl _) _⟩,rfl⟩,?_⟩
      repeat (go_big_quiet_step (fail))
      refine wpQuiet_nil ?_
      clear k0 k1 f0 f1
      have hbn:=(hb1'.setCell (p:=⟨w.heap.size,0,none⟩) (Nat.le_refl _) (.int .i64 1)).setCell (p:=⟨w.heap.size,1,none⟩) (Nat.le_refl _) (.int .i64 0)
      have hk2:=(hk1.set (j:=0) (by simp) (.int .i64 1)).set (j:=1) (by simp) (.int .i64 0)
      have k0:=hk2.cell (j:=0) rfl
      have k1:=hk2.cell (j:=1) rfl
      generalize (w1.setCell ⟨w.heap.size,0,none⟩ (.int .i64 1)).setCell ⟨w.heap.size,1,none⟩ (.int .i64 0)=w3 at *
      go_wp2_with fail
      go_ret
      exact⟨rfl,hbn⟩
    ·have hRt:R=true:=by rw[hRf,hk1];simp[hn0]
     subst hk1
     have e0:(xn == 0)=false:=by simp[hn0]
     clear hRf
     subst hRt
     refine⟨?_,?_⟩
     ·go_wp2_with fail
      refine(HG.out _ (Below.refl _ w).drew).mono ?_
      rintro r w1 ⟨rfl,hb1⟩
      have hb1':Below w.heap.size w w1:=up2 (Below.refl _ w).drew hb1
      go_wp2_with fail
      refine thenQ_normal ⟨⟨⟨_,hb1'⟩,rfl⟩,?_⟩
      repeat (go_big_quiet_step (fail))
      refine wpQuiet_nil ?_
      go_wp2_with fail
      refine thenQ_normal ⟨⟨⟨_,hb1'.alloc hb1'.size _⟩,rfl⟩,?_⟩
      refine wpQuiet_nil ?_
      go_wp2_with fail
      refine thenQ_normal ⟨⟨⟨_,hb1'.alloc hb1'.size _⟩,rfl⟩,?_⟩
      repeat (go_big_quiet_step (fail))
      refine wpQuiet_nil ?_
      go_wp2_with fail
      go_ret
      exact⟨rfl,hb1'.alloc hb1'.size _⟩
     ·go_wp2_with fail
      refine thenQ_normal ⟨⟨⟨_,(Below.refl _ w).drew.alloc (Nat.le_refl _) _⟩,rfl⟩,?_⟩
      refine wpQuiet_nil ?_
      have hk:Blk (w.drew.alloc (.cells #[.int .i64 0,.int .i64 0] 31)) w.heap.size 31 #[.int .i64 0,.int .i64 0]:=Blk.made w.drew 31 #[.int .i64 0,.int .i64 0]
      have hbk:Below w.heap.size w (w.drew.alloc (.cells #[.int .i64 0,.int .i64 0] 31)):=(Below.refl _ w).drew.alloc (Nat.le_refl _) _
      go_wp2_with fail
      refine(HG.out _ hbk).mono ?_
      rintro r w1 ⟨rfl,hb1⟩
      have hb1':Below w.heap.size w w1:=up2 hbk hb1
      have hk1:=hk.up hb1
      have k0:=hk1.cell (j:=0) rfl
      have k1:=hk1.cell (j:=1) rfl
      have f0:=hk1.fz 0
      have f1:=hk1.fz 1
      go_wp2_with fail
      refine thenQ_normal ⟨⟨⟨_,hb1'⟩,rfl⟩,?_⟩
      repeat (go_big_quiet_step (fail))
      refine wpQuiet_nil ?_
      go_wp2_with fail
      refine thenQ_normal ⟨⟨⟨_,(hb1'.setCell (p:=⟨w.heap.size,0,none⟩) (Nat.le_refl _) _).setCell (p:=⟨w.heap.size,1,none⟩) (Nat.le_refl _) _⟩,rfl⟩,?_⟩
      repeat (go_big_quiet_step (fail))
      refine wpQuiet_nil ?_
      clear k0 k1 f0 f1
      have hbn:=(hb1'.setCell (p:=⟨w.heap.size,0,none⟩) (Nat.le_refl _) (.int .i64 1)).setCell (p:=⟨w.heap.size,1,none⟩) (Nat.le_refl _) (.int .i64 xn)
      have hk2:=(hk1.set (j:=0) (by simp) (.int .i64 1)).set (j:=1) (by simp) (.int .i64 xn)
      have k0:=hk2.cell (j:=0) rfl
      have k1:=hk2.cell (j:=1) rfl
      generalize (w1.setCell ⟨w.heap.size,0,none⟩ (.int .i64 1)).setCell ⟨w.heap.size,1,none⟩ (.int .i64 xn)=w3 at *
      go_wp2_with fail
      go_ret
      exact⟨rfl,hbn⟩
   ·have hRt:R=true:=by rw[hRf];simp[hk1]
    have e0:(xk == 1)=false:=by simp[hk1]
    clear hRf
    subst hRt
    refine⟨?_,?_⟩
    ·go_wp2_with fail
     refine(HG.out _ (Below.refl _ w).drew).mono ?_
     rintro r w1 ⟨rfl,hb1⟩
     have hb1':Below w.heap.size w w1:=up2 (Below.refl _ w).drew hb1
     go_wp2_with fail
     refine thenQ_normal ⟨⟨⟨_,hb1'⟩,rfl⟩,?_⟩
     repeat (go_big_quiet_step (fail))
     refine wpQuiet_nil ?_
     go_wp2_with fail
     refine thenQ_normal ⟨⟨⟨_,hb1'.alloc hb1'.size _⟩,rfl⟩,?_⟩
     refine wpQuiet_nil ?_
     go_wp2_with fail
     refine thenQ_normal ⟨⟨⟨_,hb1'.alloc hb1'.size _⟩,rfl⟩,?_⟩
     repeat (go_big_quiet_step (fail))
     refine wpQuiet_nil ?_
     go_wp2_with fail
     go_ret
     exact⟨rfl,hb1'.alloc hb1'.size _⟩
    ·go_wp2_with fail
     refine thenQ_normal ⟨⟨⟨_,(Below.refl _ w).drew.alloc (Nat.le_refl _) _⟩,rfl⟩,?_⟩
     refine wpQuiet_nil ?_
     have hk:Blk (w.drew.alloc (.cells #[.int .i64 0,.int .i64 0] 31)) w.heap.size 31 #[.int .i64 0,.int .i64 0]:=Blk.made w.drew 31 #[.int .i64 0,.int .i64 0]
     have hbk:Below w.heap.size w (w.drew.alloc (.cells #[.int .i64 0,.int .i64 0] 31)):=(Below.refl _ w).drew.alloc (Nat.le_refl _) _
     go_wp2_with fail
     refine(HG.out _ hbk).mono ?_
     rintro r w1 ⟨rfl,hb1⟩
     have hb1':Below w.heap.size w w1:=up2 hbk hb1
     have hk1:=hk.up hb1
     have k0:=hk1.cell (j:=0) rfl
     have k1:=hk1.cell (j:=1) rfl
     have f0:=hk1.fz 0
     have f1:=hk1.fz 1
     go_wp2_with fail
     refine thenQ_normal ⟨⟨⟨_,hb1'⟩,rfl⟩,?_⟩
     repeat (go_big_quiet_step (fail))
     refine wpQuiet_nil ?_
     go_wp2_with fail
     refine thenQ_normal ⟨⟨⟨_,(hb1'.setCell (p:=⟨w.heap.size,0,none⟩) (Nat.le_refl _) _).setCell (p:=⟨w.heap.size,1,none⟩) (Nat.le_refl _) _⟩,rfl⟩,?_⟩
     repeat (go_big_quiet_step (fail))
     refine wpQuiet_nil ?_
     clear k0 k1 f0 f1
     have hbn:=(hb1'.setCell (p:=⟨w.heap.size,0,none⟩) (Nat.le_refl _) (.int .i64 xk)).setCell (p:=⟨w.heap.size,1,none⟩) (Nat.le_refl _) (.int .i64 xn)
     have hk2:=(hk1.set (j:=0) (by simp) (.int .i64 xk)).set (j:=1) (by simp) (.int .i64 xn)
     have k0:=hk2.cell (j:=0) rfl
     have k1:=hk2.cell (j:=1) rfl
     generalize (w1.setCell ⟨w.heap.size,0,none⟩ (.int .i64 xk)).setCell ⟨w.heap.size,1,none⟩ (.int .i64 xn)=w3 at *
     go_wp2_with fail
     go_ret
     exact⟨rfl,hbn⟩
end
end Go.Proofs.YtkpoodjhjfmfjaaGreatDoor
namespace Go.Proofs.YtkpoodjhjfmfjaaGreatDoor
open Go.RowKit
section
variable {w w' : World} {p m o mm : Nat}
end
end Go.Proofs.YtkpoodjhjfmfjaaGreatDoor
namespace Go.Proofs.YtkpoodjhjfmfjaaGreatDoor
open Go.RowKit
section
variable {w w' : World} {m mm : Nat}
end
end Go.Proofs.YtkpoodjhjfmfjaaGreatDoor
namespace Go.Proofs.YtkpoodjhjfmfjaaGreatDoor
open Go.RowKit
section
variable {w w' : World} {t g b : Nat}
set_option maxHeartbeats 1000000 in
theorem ggrowE (f:Value) (h:Blk w t 184 (txtC g 0 0 0 0 f)):Calls Tryz.prog 237 #[pAt t,.int .i64 0] w fun e w'=>e=.returned (.tuple #[])/\Below w.heap.size w w':=by
 have c1:=h.cell (j:=1) rfl
 have c2:=h.cell (j:=2) rfl
 clear h
 go_enter Tryz.func237,Tryz.ntmps237
 go_wp2_with fail
 go_region
 go_wp2_with fail
 refine bodyPost_ret (results_none rfl _ _ _) rfl ?_
 exact⟨rfl,(Below.refl _ w).drew⟩
set_option maxHeartbeats 1000000 in
theorem sinsertE (w:World):Calls Tryz.prog 238 #[.slice none 0 0,.int .i64 0,.slice none 0 0] w fun e w'=>e=.returned (.slice none 0 0)/\w=w':=by
 go_enter Tryz.func238,Tryz.ntmps238
 go_wp2_with fail
 go_ret
 exact⟨rfl,rfl⟩
theorem vldE:vld ⟨#[]⟩=true:=by rw[vld_chars];rfl
theorem rlenE:rlenG ⟨#[]⟩=0:=by
 rw[rlenG_chars (s:=⟨#[]⟩) rfl];rfl
set_option maxRecDepth 100000 in
set_option maxHeartbeats 2000000 in
theorem ginsertE {N:Nat} (hT:Tabs N w) (h:Blk w t 184 (txtC g 0 0 0 0 (.slice none 0 0))) (hNt:N<=t) :
  Calls Tryz.prog 169 #[pAt t,.int .i64 1,.string ⟨#[]⟩] w fun e w'=>e=.returned (.int .i64 0)/\Only (fun k=>k=t) w w'/\Blk w' t 184 (txtC g 0 0 0 0 (.slice none 0 0)):=by
 have H:=qH h
 have HT:=qH hT
 have HN:=qH (gnone0 h rfl)
 have ht:=h.lt
 clear h hT
 go_enter Tryz.func169,Tryz.ntmps169
 go_wp2_with fail
 refine HN.out.mono ?_
 rintro e w' ⟨rfl,rfl⟩
 go_wp2_with fail
 refine(gsize0 _ H.out).mono ?_
 rintro e w1 ⟨rfl,hb1⟩
 have H1:=qH (H.out.up hb1)
 have HT1:=qH (HT.out.up hb1)
 have hV:=valid_any ⟨#[]⟩ w1 (by decide) HT1.out
 rw[vldE] at hV
 go_wp2_with fail
 refine hV.mono ?_
 rintro e w2 ⟨rfl,hb2⟩
 have H2:=qH (H1.out.up hb2)
 have HT2:=qH (HT1.out.up hb2)
 clear hV
 go_wp2_with fail
 have hLn:=runesLen ⟨#[]⟩ w2 (by decide) HT2.out
 rw[rlenE] at hLn
 refine hLn.mono ?_
 rintro e w3 ⟨rfl,hb3⟩
 have H3:=qH (H2.out.up hb3)
 have HB3:=qH (up2 hb1 (up2 hb2 hb3))
 clear hLn hb1 hb2 hb3 H1 H2 HT1 HT2
 go_wp2_with fail
 refine(gsize0 _ H3.out).mono ?_
 rintro e w4 ⟨rfl,hb4⟩
 have H4:=qH (H3.out.up hb4)
 have HB4:=qH (up2 HB3.out hb4)
 clear hb4 HB3 H3
 go_wp2_with fail
 refine(gmove0 _ H4.out).mono ?_
 rintro e w5 ⟨rfl,ho5,hk5⟩
 have H5:=qH hk5
 have HO5:=qH ho5
 clear hk5 ho5 H4
 go_wp2_with fail
 refine(ggrowE _ H5.out).mono ?_
 rintro e w6 ⟨rfl,hb6⟩
 have hk6:=H5.out.up hb6
 have H6:=qH hk6
 have HO6:=qH (((Only.of_below HB4.out:Only (fun k=>k=t) w w4).trans HO5.out).trans (Only.of_below hb6))
 have f3:=hk6.cell (j:=3) rfl
 clear hk6 hb6 H5 HO5 HB4
 go_wp2_with fail
 refine(bsearch_nil 1).mono ?_
 rintro e w7 ⟨rfl,rfl⟩
 go_wp2_with fail
 go_loopw [10] (fun va wr=>va=.int .i64 0/\w6=wr) (fun _ _=>0)
 case atStart=>exact⟨rfl,rfl⟩
 case round=>
  obtain⟨rfl,rfl⟩:=hrel
  go_wp2_with fail
  clear f3
  have hit:=w6.iter_heap ⟨#[]⟩ 0
  have HBi:=qH (show Below w6.heap.size w6 (w6.iter ⟨#[]⟩ 0) from below1 w6 _)
  generalize w6.iter ⟨#[]⟩ 0=W at *
  go_loopw [11,13] (fun va vb wr=>va=.slice none 0 0/\W=wr) (fun _ _ _=>0)
  case atStart=>exact⟨rfl,rfl⟩
  case round=>
   obtain⟨rfl,rfl⟩:=hrel
   have hnx:=fun ty=>Lib.run_next_end_at (P:=Tryz.prog) W w6.heap.size ⟨#[]⟩ 0 ty hit (by decide)
   have hkW:=H6.out.up HBi.out
   have q3:=hkW.cell (j:=3) rfl
   have qf:=hkW.fz 3
   have HW:=qH hkW
   clear hkW
   go_wp2_with fail
   refine(sinsertE W).mono ?_
   rintro e w8 ⟨rfl,rfl⟩
   go_wp2_with fail
   go_ret
   refine⟨rfl,(HO6.out.trans (Only.of_below HBi.out)).setCell (p:=⟨t,3,none⟩) rfl _,HW.out.set (j:=3) (by simp) (.slice none 0 0)⟩
end
end Go.Proofs.YtkpoodjhjfmfjaaGreatDoor
namespace Go.Proofs.YtkpoodjhjfmfjaaGreatDoor
open Go.RowKit
section
variable {w w' : World}
end
end Go.Proofs.YtkpoodjhjfmfjaaGreatDoor
namespace Go.Proofs.YtkpoodjhjfmfjaaGreatDoor
open Go.RowKit
inductive PlanS where
 | done (last:List (Nat × Bool))
 | one (seg:List (Nat × Bool)) (i:Nat) (r:PlanS)
section
variable {P : Program} {md : Region.Mode} {ops : Array Oper} {S : Array Bool → World → Prop} {Q : Exit → Act → World → Prop}
def headS (P:Program) (md:Region.Mode) (ops:Array Oper) (S:Array Bool->World->Prop) (Q:Exit->Act->World->Prop):Nat->Array Bool->Act->World->Prop
 | 0,listed,a,w=>Region.ready md ops listed=[]/\Q .normal a w
 | f+1,listed,a,w=>Region.ready md ops listed≠[]/\∀ i ∈ Region.ready md ops listed,wpOp P ops Q i (fun a' w'=>S (listed.setIfInBounds i true) w'/\headS P md ops S Q f (listed.setIfInBounds i true) a' w') a w
theorem any_of_headS:∀(f:Nat) (listed:Array Bool) (a:Act) (w:World),headS P md ops S Q f listed a w->wpAny P md ops Q f listed a w
 | 0,listed,a,w,h=>⟨h.1,h.2⟩
 | f+1,listed,a,w,h=>⟨fun h0=>absurd h0 h.1,fun i hi=>wpOp_mono (fun a' w' h'=>any_of_headS f _ a' w' h'.2) (h.2 i hi)⟩
theorem headS_first {i:Nat} {oi:Oper} {v:Value} {C:World->Prop} (hi:ops[i]?=some oi) (hsel:∀(j:Nat) (o:Oper) cs b,ops[j]?=some o->o.op≠.select cs b)
  (hQ:∀ c a w,Q (.panic c) (a.put oi.dst v) w->Q (.panic c) a w) (hSi:∀ listed w,S (listed.setIfInBounds i true) w ↔ S listed w)
  (hC:∀ listed w,HeadInv md ops ops.size listed->listed.getD i true=false->S listed w->C w) :
  ∀ (f:Nat) (listed:Array Bool) (a:Act) (w:World),HeadInv md ops ops.size listed ->
    (∀ j oj,ops[j]?=some oj->j≠i->listed.getD j true=false->(∀ e ∈ oj.after,Region.binds md e=true->e.on≠i)->oi.apart ops oj=true) ->
    i ∈ Region.ready md ops listed->YieldsIf P ops C oi v a->S listed w->headS P md ops S Q f (listed.setIfInBounds i true) (a.put oi.dst v) w->headS P md ops S Q (f+1) listed a w:=by
 intro f
 induction f with
 | zero=>
   intro listed a w inv _ hr hy hS H
   have hun:=(mem_ready.1 hr).1
   refine⟨fun h=>(by rw[h] at hr;cases hr),fun j hj=>?_⟩
   by_cases hji:j=i
   ·subst hji;exact hy.wpOp hi (hC _ _ inv hun hS) ⟨(hSi _ _).2 hS,H⟩
   ·have:=ready_mono hj hji
    rw[H.1] at this
    cases this
 | succ f ih=>
   intro listed a w inv hfree hr hy hS H
   have hun:=(mem_ready.1 hr).1
   refine⟨fun h=>(by rw[h] at hr;cases hr),fun j hj=>?_⟩
   by_cases hji:j=i
   ·subst hji;exact hy.wpOp hi (hC _ _ inv hun hS) ⟨(hSi _ _).2 hS,H⟩
   ·have h1:=H.2 j (ready_mono hj hji)
    obtain⟨hjun,oj,hoj,hall⟩:=mem_ready.1 hj
    have hjn:j<ops.size:=(Array.getElem?_eq_some_iff.1 hoj).1
    have hnot:∀ e ∈ oj.after,Region.binds md e=true->e.on≠i:=fun e he hb heq=>by
     have h1:=hall e he hb
     rw[heq,getD_both hun] at h1
     cases h1
    have h2:=wpOp_putIf hoj (hfree j oj hoj hji hjun hnot) (fun cs b=>hsel i oi cs b hi) (fun cs b=>hsel j oj cs b hoj) hQ hy h1
    refine wpOp_mono (fun a' w' h3=>?_) h2
    obtain⟨h3y,h3s,h3h⟩:=h3
    rw[Array.setIfInBounds_comm _ _ (Ne.symm hji)] at h3s h3h
    have hs':=(hSi _ _).1 h3s
    refine⟨hs',ih (listed.setIfInBounds j true) a' w' (inv.set hj hjn) (fun k ok hk hki hun' hno=>hfree k ok hk hki ?_ hno) (ready_mono hr (Ne.symm hji)) h3y hs' h3h⟩
    by_cases hjk:j=k
    ·subst hjk;exact hjun
    ·rw[getD_set_ne true hjk] at hun';exact hun'
variable {S0 S1 : World → Prop} {late : List Nat}
def SS (S0 S1:World->Prop) (late:List Nat) (listed:Array Bool) (w:World):Prop:=S1 w/\((∀ k ∈ late,listed.getD k true=false)->S0 w)
def wpQ2 (P:Program) (l:List Oper) (S0 S1:World->Prop) (K:Act->Prop):List (Nat × Bool)->Act->Prop
 | [],a=>K a
 |(i,true) :: r,a=>wpQuiet P l.toArray S0 (fun a'=>wpQ2 P l S0 S1 K r a') (pk l [i]) a
 |(i,false) :: r,a=>wpQuiet P l.toArray S1 (fun a'=>wpQ2 P l S0 S1 K r a') (pk l [i]) a
def wpMixS (P:Program) (l:List Oper) (S0 S1:World->Prop) (late:List Nat) (Q:Exit->Act->World->Prop):PlanS->Bool->Act->World->Prop
 | .done last,st,a,w=>wpQ2 P l S0 S1 (fun a'=>Q .normal a' w) last a
 | .one seg i r,st,a,w=>wpQ2 P l S0 S1 (fun a'=>wpList P l.toArray (thenQ Q fun a'' w''=>(match (st || late.contains i) with|true=>S1 w''|false=>S0 w'')/\wpMixS P l S0 S1 late Q r (st || late.contains i) a'' w'') (pk l [i]) a' w) seg a
def earlyB (md:Region.Mode) (l:List Oper) (late:List Nat) (i:Nat):Bool:=late.all fun k=>match l[k]? with
 | some o=>o.after.any fun e=>Region.binds md e && (e.on == i)
 | none=>false
def segSB (md:Region.Mode) (l:List Oper) (late:List Nat):List (Nat × Bool)->Array Bool->Option (Array Bool)
 | [],listed=>some listed
 |(i,b) :: r,listed=>if ((l[i]?).map pureOp).getD false && (Region.ready md l.toArray listed).contains i && Region.free md l.toArray listed i && !late.contains i && (!b || earlyB md l late i) then segSB md l late r (listed.setIfInBounds i true) else none
def cntS:PlanS->Nat
 | .done last=>last.length
 | .one seg _ r=>seg.length+1+cntS r
def mixSB (md:Region.Mode) (l:List Oper) (late:List Nat):PlanS->Array Bool->Bool
 | .done last,listed=>match segSB md l late last listed with
   | none=>false
   | some l'=>decide (Region.ready md l.toArray l'=[])
 | .one seg i r,listed=>match segSB md l late seg listed with
   | none=>false
   | some l'=>decide (Region.ready md l.toArray l'=[i]) && mixSB md l late r (l'.setIfInBounds i true)
def mixSAll (l:List Oper) (late:List Nat) (plan:PlanS):Bool:=Region.noSelect l.toArray && decide (cntS plan=l.length) && mixSB .any l late plan (Array.replicate l.length false)
theorem segS_headS {l:List Oper} (hsel:Region.noSelect l.toArray=true) (hQ:∀ c d v a w,Q (.panic c) (Act.put a d v) w->Q (.panic c) a w) (h01:∀ w,S0 w->S1 w) :
  ∀ (seg:List (Nat × Bool)) (listed l':Array Bool) (f:Nat) (K:Act->Prop) (a:Act) (w:World),HeadInv md l.toArray l.toArray.size listed->segSB md l late seg listed=some l'->SS S0 S1 late listed w->wpQ2 P l S0 S1 K seg a ->
    (HeadInv md l.toArray l.toArray.size l'->SS S0 S1 late l' w->(∀ k ∈ late,l'.getD k true=listed.getD k true)->∀ a',K a'->headS P md l.toArray (SS S0 S1 late) Q f l' a' w)->headS P md l.toArray (SS S0 S1 late) Q (seg.length+f) listed a w
 | [],listed,l',f,K,a,w,inv,hB,hS,h,hK=>by
   simp only[segSB,Option.some.injEq] at hB
   subst hB
   rw[List.length_nil,Nat.zero_add]
   exact hK inv hS (fun _ _=>rfl) a h
 | (i,b) :: seg,listed,l',f,K,a,w,inv,hB,hS,h,hK=>by
   unfold segSB at hB
   split at hB
   ·rename_i hc
    simp only[Bool.and_eq_true,Bool.or_eq_true,Bool.not_eq_true'] at hc
    obtain⟨⟨⟨⟨hp,hr⟩,hf⟩,hnl⟩,hb⟩:=hc
    cases ho:l[i]? with
    | none=>rw[ho] at hp;simp at hp
    | some o=>
      rw[ho] at hp
      have hp':pureOp o=true:=by simpa using hp
      have ho':l.toArray[i]?=some o:=by simpa using ho
      have hin:i<l.toArray.size:=(Array.getElem?_eq_some_iff.1 ho').1
      have hr':i ∈ Region.ready md l.toArray listed:=by simpa using hr
      have hni:i ∉ late:=by simpa using hnl
      have e:pk l [i]=[o]:=by rw[pk_cons,pushAt_eq _ _ _ ho];rfl
      have hSi:∀(ls:Array Bool) (w:World),SS S0 S1 late (ls.setIfInBounds i true) w ↔ SS S0 S1 late ls w:=fun ls w=>by
       have hk:∀ k ∈ late,(ls.setIfInBounds i true).getD k true=ls.getD k true:=fun k hk=>getD_set_ne true (fun e=>hni (e▸hk))
       unfold SS
       constructor
       ·rintro ⟨h1,h2⟩
        exact⟨h1,fun h3=>h2 fun k hk'=>by rw[hk k hk'];exact h3 k hk'⟩
       ·rintro ⟨h1,h2⟩
        exact⟨h1,fun h3=>h2 fun k hk'=>by rw[<-hk k hk'];exact h3 k hk'⟩
      have hlk:∀ k ∈ late,(listed.setIfInBounds i true).getD k true=listed.getD k true:=fun k hk=>getD_set_ne true (fun e=>hni (e▸hk))
      obtain⟨C,hC,hst⟩:∃ C:World->Prop,(∀(ls:Array Bool) (w:World),HeadInv md l.toArray l.toArray.size ls->ls.getD i true=false->SS S0 S1 late ls w->C w)/\qOp P l.toArray C i (wpQ2 P l S0 S1 K seg) a:=by
       cases b with
       | false=>
         refine⟨S1,fun ls w _ _ h=>h.1,?_⟩
         unfold wpQ2 at h
         rw[e] at h
         unfold qOp
         simp only[ho']
         exact h
       | true=>
         have he:earlyB md l late i=true:=by simpa using hb
         refine⟨S0,fun ls w inv' hun h=>h.2 fun k hk=>?_,?_⟩
         ·unfold earlyB at he
          have hek:=List.all_eq_true.1 he k hk
          cases hok:l[k]? with
          | none=>rw[hok] at hek;cases hek
          | some ok=>
            rw[hok] at hek
            simp only[Array.any_eq_true,Bool.and_eq_true,beq_iff_eq] at hek
            obtain⟨q,hq,hb1,hb2⟩:=hek
            cases hg:ls.getD k true with
            | false=>rfl
            | true=>
              have hks:k<ls.size:=by
               rw[inv'.size]
               exact(Array.getElem?_eq_some_iff.1 (show l.toArray[k]?=some ok by simpa using hok)).1
              have hg2:ls.getD k false=true:=by
               simp only[Array.getD,hks,dif_pos] at hg ⊢
               exact hg
              have:=inv'.closed k ok (by simpa using hok) hg2 _ (Array.getElem_mem hq) hb1
              rw[hb2,getD_both hun] at this
              cases this
         ·unfold wpQ2 at h
          rw[e] at h
          unfold qOp
          simp only[ho']
          exact h
      obtain⟨v,hy,hk⟩:=yieldsIn_of_qOp ho' hst
      rw[List.length_cons,show seg.length+1+f=(seg.length+f)+1 by omega]
      exact headS_first ho' (Region.noSelect_spec hsel) (fun c a w h=>hQ c _ _ a w h) hSi hC _ listed a w inv (Region.free_spec ho' hf) hr' (yieldsIf_of_in hp' hy) hS
       (segS_headS hsel hQ h01 seg _ l' f K _ w (inv.set hr' hin) hB ((hSi _ _).2 hS) hk (fun i1 s1 e1=>hK i1 s1 (fun k hk=>(e1 k hk).trans (hlk k hk))))
   ·cases hB
theorem mixS_headS {l:List Oper} (hsel:Region.noSelect l.toArray=true) (hQ:∀ c d v a w,Q (.panic c) (Act.put a d v) w->Q (.panic c) a w) (h01:∀ w,S0 w->S1 w) :
  ∀ (plan:PlanS) (st:Bool) (listed:Array Bool) (a:Act) (w:World),HeadInv md l.toArray l.toArray.size listed->(st=true->∃ k ∈ late,listed.getD k true=true)->mixSB md l late plan listed=true->SS S0 S1 late listed w ->
    wpMixS P l S0 S1 late Q plan st a w->headS P md l.toArray (SS S0 S1 late) Q (cntS plan) listed a w
 | .done last,st,listed,a,w,inv,hst,hB,hS,h=>by
   unfold mixSB at hB
   split at hB
   ·cases hB
   ·rename_i l' hl'
    have:=segS_headS (P:=P) (Q:=Q) hsel hQ h01 last listed l' 0 _ a w inv hl' hS h (fun _ _ _ a' h'=>⟨by simpa using hB,h'⟩)
    simpa [cntS] using this
 | .one seg i r,st,listed,a,w,inv,hst,hB,hS,h=>by
   unfold mixSB at hB
   split at hB
   ·cases hB
   ·rename_i l' hl'
    simp only[Bool.and_eq_true,decide_eq_true_eq] at hB
    obtain⟨hr,hB⟩:=hB
    have:=segS_headS (P:=P) (Q:=Q) hsel hQ h01 seg listed l' (1+cntS r) _ a w inv hl' hS h (fun inv' hS' hk' a' h'=>by
     rw[Nat.add_comm 1]
     refine⟨by rw[hr];simp,fun j hj=>?_⟩
     have hj0:=hj
     rw[hr] at hj
     have hji:j=i:=by simpa using hj
     subst hji
     obtain⟨_,oj,hoj,_⟩:=mem_ready.1 hj0
     have hjn:j<l.toArray.size:=(Array.getElem?_eq_some_iff.1 hoj).1
     have e:pk l [j]=[oj]:=by
      have:l[j]?=some oj:=by simpa using hoj
      rw[pk_cons,pushAt_eq _ _ _ this];rfl
     rw[e] at h'
     have hst2:(st || late.contains j)=true->∃ k ∈ late,(l'.setIfInBounds j true).getD k true=true:=fun hb=>by
      by_cases hjl:j ∈ late
      ·refine⟨j,hjl,?_⟩
       simp[Array.getD]
      ·have hs:st=true:=by simpa [hjl] using hb
       obtain⟨k,hk,hk2⟩:=hst hs
       have hjk:j≠k:=fun e'=>hjl (by rw[e'];exact hk)
       exact⟨k,hk,by rw[getD_set_ne true hjk,hk' k hk,hk2]⟩
     refine wpOp_mono (fun a'' w'' h3=>?_) (wpOp_of_list hoj h')
     obtain⟨h3a,h3b⟩:=h3
     have hSS:SS S0 S1 late (l'.setIfInBounds j true) w'':=by
      cases hb:(st || late.contains j) with
      | true=>
        rw[hb] at h3a
        refine⟨h3a,fun hall=>?_⟩
        obtain⟨k,hk,hk2⟩:=hst2 hb
        rw[hall k hk] at hk2
        cases hk2
      | false=>
        rw[hb] at h3a
        exact⟨h01 _ h3a,fun _=>h3a⟩
     exact⟨hSS,mixS_headS hsel hQ h01 r _ _ a'' w'' (inv'.set hj0 hjn) hst2 hB hSS h3b⟩)
    simp only[cntS]
    rwa [show seg.length+1+cntS r=seg.length+(1+cntS r) by omega]
end
theorem wp_region_mixS {P:Program} {id:Nat} {Q:Exit->Act->World->Prop} {a:Act} {w:World} {l:List Oper} (T:Nat->Prop) (late:List Nat) (plan:PlanS) (hm:P.follows .mixedOrders=true) (hQ:∀ c d v a w,Q (.panic c) (Act.put a d v) w->Q (.panic c) a w)
  (hB:mixSAll l late plan=true)
  (h:wpMixS P l (fun w'=>∃ x:UpW w.heap.size w,w'=x.w) (fun w'=>∃ x:OnW T w,w'=x.w) late Q plan false a w.drew):(Code.region id l.toArray true).wp P Q a w:=by
 simp only[mixSAll,Bool.and_eq_true,decide_eq_true_eq] at hB
 obtain⟨⟨hsel,hcnt⟩,hmix⟩:=hB
 have inv0:HeadInv .any l.toArray l.toArray.size (Array.replicate l.length false):=
  ⟨by simp,fun j oj _ hl=>(by rw[getD_replicate_false] at hl;cases hl),fun t h1 h2=>by omega⟩
 have h01:∀ w',(∃ x:UpW w.heap.size w,w'=x.w)->∃ x:OnW T w,w'=x.w:=fun w' ⟨x,hx⟩=>⟨⟨x.w,Only.of_below x.up⟩,hx⟩
 have hu0:∃ x:UpW w.heap.size w,w.drew=x.w:=⟨⟨w.drew,(Below.refl _ w).drew⟩,rfl⟩
 have H:=mixS_headS (md:=.any) hsel hQ h01 plan false _ a w.drew inv0 (fun h=>by cases h) hmix ⟨h01 _ hu0,fun _=>hu0⟩ h
 refine wp_region_any hm ?_
 have key:=any_of_headS _ _ _ _ H
 rw[hcnt] at key
 simpa using key
theorem wp_region_mixS2 {P:Program} {id:Nat} {Q:Exit->Act->World->Prop} {a:Act} {w:World} {l:List Oper} (T0 T:Nat->Prop) (hT:∀ k,T0 k->T k) (late:List Nat) (plan:PlanS) (hm:P.follows .mixedOrders=true) (hQ:∀ c d v a w,Q (.panic c) (Act.put a d v) w->Q (.panic c) a w)
  (hB:mixSAll l late plan=true)
  (h:wpMixS P l (fun w'=>∃ x:OnW T0 w,w'=x.w) (fun w'=>∃ x:OnW T w,w'=x.w) late Q plan false a w.drew):(Code.region id l.toArray true).wp P Q a w:=by
 simp only[mixSAll,Bool.and_eq_true,decide_eq_true_eq] at hB
 obtain⟨⟨hsel,hcnt⟩,hmix⟩:=hB
 have inv0:HeadInv .any l.toArray l.toArray.size (Array.replicate l.length false):=
  ⟨by simp,fun j oj _ hl=>(by rw[getD_replicate_false] at hl;cases hl),fun t h1 h2=>by omega⟩
 have h01:∀ w',(∃ x:OnW T0 w,w'=x.w)->∃ x:OnW T w,w'=x.w:=fun w' ⟨x,hx⟩=>⟨⟨x.w,x.on.mono hT⟩,hx⟩
 have hu0:∃ x:OnW T0 w,w.drew=x.w:=⟨⟨w.drew,(Only.refl _ w).drew⟩,rfl⟩
 have H:=mixS_headS (md:=.any) hsel hQ h01 plan false _ a w.drew inv0 (fun h=>by cases h) hmix ⟨h01 _ hu0,fun _=>hu0⟩ h
 refine wp_region_any hm ?_
 have key:=any_of_headS _ _ _ _ H
 rw[hcnt] at key
 simpa using key
end Go.Proofs.YtkpoodjhjfmfjaaGreatDoor
namespace Go.Proofs.YtkpoodjhjfmfjaaGreatDoor
open Go.RowKit
structure EditAt (w:World) (F:FuncId) (cp:Array Value) (f:Int->Bool->Int):Prop where
 en:Enters F
 run:∀(x:Int) (ah:Bool) (w1:World),0<=x->x<=1000000000000000->Below w.heap.size w w1->Calls Tryz.prog F (#[.int .i64 x,.bool ah]++cp) w1 fun r w2=>r=.returned (.int .i64 (f x ah))/\Below w1.heap.size w1 w2
section
variable {w w' : World} {b g o : Nat} {S : BS} {F : FuncId} {cp : Array Value} {f : Int → Bool → Int}
set_option maxRecDepth 100000 in
set_option maxHeartbeats 4000000 in
theorem move_ok (hE:EditAt w F cp f) (bf:Bool) (p0 p1 p2 p3:Int) (h0:w.cell? ⟨g,o,none⟩=some (.int .i64 p0)) (h1:w.cell? ⟨g,o+1,none⟩=some (.int .i64 p1)) (h2:w.cell? ⟨g,o+2,none⟩=some (.int .i64 p2)) (h3:w.cell? ⟨g,o+3,none⟩=some (.int .i64 p3))
  (z0:w.frozen? ⟨g,o,none⟩=false) (z1:w.frozen? ⟨g,o+1,none⟩=false) (z2:w.frozen? ⟨g,o+2,none⟩=false) (z3:w.frozen? ⟨g,o+3,none⟩=false)
  (b0:0<=p0/\p0<=1000000000000000) (b1:0<=p1/\p1<=1000000000000000) (b2:0<=p2/\p2<=1000000000000000) (b3:0<=p3/\p3<=1000000000000000) :
  Calls Tryz.prog 232 #[.pointer (some ⟨g,o,none⟩),.func (.func F) #[] cp,.bool bf] w fun r w'=>r=.returned (.tuple #[]) /\
   ∃ w1,Below w.heap.size w w1/\w'=(((w1.setCell ⟨g,o,none⟩ (.int .i64 (f p0 bf))).setCell ⟨g,o+1,none⟩ (.int .i64 (f p1 false))).setCell ⟨g,o+2,none⟩ (.int .i64 (f p2 true))).setCell ⟨g,o+3,none⟩ (.int .i64 (f p3 bf)):=by
 have hg:=lt_of_cell h0
 have hin:∀(args:Array Value) (w:World),(callFunc F args).run Tryz.prog w=.ok (.enter F args) w:=hE.en
 have C0:∀ x:UpW w.heap.size w,x.w.cell? ⟨g,o,none⟩=some (.int .i64 p0):=fun x=>cell_up h0 x.up
 have C1:∀ x:UpW w.heap.size w,x.w.cell? ⟨g,o+1,none⟩=some (.int .i64 p1):=fun x=>cell_up h1 x.up
 have C2:∀ x:UpW w.heap.size w,x.w.cell? ⟨g,o+2,none⟩=some (.int .i64 p2):=fun x=>cell_up h2 x.up
 have C3:∀ x:UpW w.heap.size w,x.w.cell? ⟨g,o+3,none⟩=some (.int .i64 p3):=fun x=>cell_up h3 x.up
 have HE0:=qH fun w1 (hb:Below w.heap.size w w1)=>hE.run p0 bf w1 b0.1 b0.2 hb
 have HE1:=qH fun w1 (hb:Below w.heap.size w w1)=>hE.run p1 false w1 b1.1 b1.2 hb
 have HE2:=qH fun w1 (hb:Below w.heap.size w w1)=>hE.run p2 true w1 b2.1 b2.2 hb
 have HE3:=qH fun w1 (hb:Below w.heap.size w w1)=>hE.run p3 bf w1 b3.1 b3.2 hb
 have HC:=qH (⟨h0,h1,h2,h3⟩:_/\_/\_/\_)
 have HZ:=qH (⟨z0,z1,z2,z3⟩:_/\_/\_/\_)
 generalize f p0 bf=q0 at *
 generalize f p1 false=q1 at *
 generalize f p2 true=q2 at *
 generalize f p3 bf=q3 at *
 clear hE h0 h1 h2 h3 z0 z1 z2 z3 b0 b1 b2 b3
 go_enter Tryz.func232,Tryz.ntmps232
 go_wp2_with fail
 refine wp_region_mixS (fun k=>k=g) [32,35,38,41] (.one [(0,true),(1,false),(2,false),(3,false),(4,true),(5,true),(6,true),(7,true),(8,true),(9,true),(11,false),(12,false),(13,false),(14,false),(15,true),(17,false),(18,false),(19,false),(20,false),(21,true),(23,false),(24,false),(25,false),(26,false),(27,true),(28,false)] 10 (.one [] 16 (.one [] 22 (.one [] 29 (.one [(30,false),(31,true)] 32 (.one [(33,false),(34,false)] 35 (.one [(36,false),(37,false)] 38 (.one [(39,false),(40,false)] 41 (.done []))))))))) (by kernel_rfl) (fun c d v a w h=>by cases d<;>exact h) (by kernel_rfl) ?_
 simp only[wpMixS,wpQ2,pk_nil,pk_cons,pushAt_zero,pushAt_succ,List.contains_cons,List.contains_nil,Bool.false_or,Bool.or_false,Bool.true_or,Bool.or_true,Nat.reduceBEq,Nat.reduceEqDiff]
 repeat (first|go_big_quiet_step (fail)|refine wpQuiet_nil ?_)
 clear C0 C1 C2 C3
 go_wp2_with fail
 refine(HE0.out _ (Below.refl _ w).drew).mono ?_
 rintro r w1 ⟨rfl,hb1⟩
 have hb1:Below w.heap.size w w1:=up2 (Below.refl _ w).drew hb1
 go_wp2_with fail
 refine thenQ_normal ⟨⟨⟨_,hb1⟩,rfl⟩,?_⟩
 go_wp2_with fail
 refine(HE1.out _ hb1).mono ?_
 rintro r w2 ⟨rfl,hb2⟩
 have hb2:Below w.heap.size w w2:=up2 hb1 hb2
 clear hb1
 go_wp2_with fail
 refine thenQ_normal ⟨⟨⟨_,hb2⟩,rfl⟩,?_⟩
 go_wp2_with fail
 refine(HE2.out _ hb2).mono ?_
 rintro r w3 ⟨rfl,hb3⟩
 have hb3:Below w.heap.size w w3:=up2 hb2 hb3
 clear hb2
 go_wp2_with fail
 refine thenQ_normal ⟨⟨⟨_,hb3⟩,rfl⟩,?_⟩
 go_wp2_with fail
 refine(HE3.out _ hb3).mono ?_
 rintro r w4 ⟨rfl,hb4⟩
 have hb4:Below w.heap.size w w4:=up2 hb3 hb4
 clear hb3
 go_wp2_with fail
 refine thenQ_normal ⟨⟨⟨_,hb4⟩,rfl⟩,?_⟩
 repeat (first|go_big_quiet_step (fail)|refine wpQuiet_nil ?_)
 obtain⟨h0,h1,h2,h3⟩:=HC.out
 obtain⟨z0,z1,z2,z3⟩:=HZ.out
 have h0:=cell_up h0 hb4
 have h1:=cell_up h1 hb4
 have h2:=cell_up h2 hb4
 have h3:=cell_up h3 hb4
 have z0:=(hb4.frozen (p:=⟨g,o,none⟩) hg).trans z0
 have z1:=(hb4.frozen (p:=⟨g,o+1,none⟩) hg).trans z1
 have z2:=(hb4.frozen (p:=⟨g,o+2,none⟩) hg).trans z2
 have z3:=(hb4.frozen (p:=⟨g,o+3,none⟩) hg).trans z3
 have ho:Only (fun k=>k=g) w w4:=Only.of_below hb4
 go_wp2_with fail
 refine thenQ_normal ⟨⟨⟨_,ho.setCell (p:=⟨g,o,none⟩) rfl _⟩,rfl⟩,?_⟩
 repeat (first|go_big_quiet_step (fail)|refine wpQuiet_nil ?_)
 go_wp2_with fail
 refine thenQ_normal ⟨⟨⟨_,(ho.setCell (p:=⟨g,o,none⟩) rfl _).setCell (p:=⟨g,o+1,none⟩) rfl _⟩,rfl⟩,?_⟩
 repeat (first|go_big_quiet_step (fail)|refine wpQuiet_nil ?_)
 go_wp2_with fail
 refine thenQ_normal ⟨⟨⟨_,((ho.setCell (p:=⟨g,o,none⟩) rfl _).setCell (p:=⟨g,o+1,none⟩) rfl _).setCell (p:=⟨g,o+2,none⟩) rfl _⟩,rfl⟩,?_⟩
 repeat (first|go_big_quiet_step (fail)|refine wpQuiet_nil ?_)
 go_wp2_with fail
 refine thenQ_normal ⟨⟨⟨_,(((ho.setCell (p:=⟨g,o,none⟩) rfl _).setCell (p:=⟨g,o+1,none⟩) rfl _).setCell (p:=⟨g,o+2,none⟩) rfl _).setCell (p:=⟨g,o+3,none⟩) rfl _⟩,rfl⟩,?_⟩
 go_end0
 exact⟨rfl,w4,hb4,rfl⟩
end
end Go.Proofs.YtkpoodjhjfmfjaaGreatDoor
namespace Go.Proofs.YtkpoodjhjfmfjaaGreatDoor
open Go.RowKit
def insF (at_ n:Int) (x:Int) (ah:Bool):Int:=if at_<x\/x=at_/\ah=true then x+n else x
section
variable {w w' : World} {b g o : Nat} {S : BS} {F : FuncId} {cp : Array Value} {f : Int → Bool → Int}
set_option maxRecDepth 100000 in
set_option maxHeartbeats 1000000 in
theorem inserted1_ok {k0 k1:Nat} (at_ n x:Int) (ah:Bool) (hx0:0<=x) (hx1:x<=1000000000000000) (hn0:0<=n) (hn1:n<=1000000000000000) (h0:w.cell? ⟨k0,0,none⟩=some (.int .i64 at_)) (h1:w.cell? ⟨k1,0,none⟩=some (.int .i64 n)) :
  Calls Tryz.prog 242 #[.int .i64 x,.bool ah,pAt k0,pAt k1] w fun r w2=>r=.returned (.int .i64 (insF at_ n x ah))/\Below w.heap.size w w2:=by
 have s1:IntKind.i64.wrap (x+n)=x+n:=IntWalk.i64_in _ (by omega)
 clear hx0 hx1 hn0 hn1
 unfold insF
 by_cases hlt:at_<x
 ·rw[if_pos (.inl hlt)]
  have d1:decide (at_<x)=true:=decide_eq_true hlt
  go_enter Tryz.func242,Tryz.ntmps242
  go_wp2_with fail
  go_ret
  exact⟨rfl,Below.refl _ _⟩
 ·have d1:decide (at_<x)=false:=decide_eq_false hlt
  by_cases he:x=at_
  ·have d2:(x == at_)=true:=by simp[he]
   cases ah with
   | true=>
     rw[if_pos (.inr ⟨he,rfl⟩)]
     clear he hlt
     go_enter Tryz.func242,Tryz.ntmps242
     go_wp2_with fail
     go_ret
     exact⟨rfl,Below.refl _ _⟩
   | false=>
     rw[if_neg (by simp[hlt])]
     clear he hlt
     go_enter Tryz.func242,Tryz.ntmps242
     go_wp2_with fail
     go_ret
     exact⟨rfl,Below.refl _ _⟩
  ·have d2:(x == at_)=false:=by simp[he]
   rw[if_neg (by simp[hlt,he])]
   clear he hlt
   go_enter Tryz.func242,Tryz.ntmps242
   go_wp2_with fail
   go_ret
   exact⟨rfl,Below.refl _ _⟩
end
end Go.Proofs.YtkpoodjhjfmfjaaGreatDoor
namespace Go.Proofs.YtkpoodjhjfmfjaaGreatDoor
open Go.RowKit
section
variable {w w' : World} {b : Nat} {S : BS}
end
end Go.Proofs.YtkpoodjhjfmfjaaGreatDoor
namespace Go.Proofs.YtkpoodjhjfmfjaaGreatDoor
open Go.RowKit
section
variable {w w' : World}
end
end Go.Proofs.YtkpoodjhjfmfjaaGreatDoor
namespace Go.Proofs.YtkpoodjhjfmfjaaGreatDoor
open Go.RowKit
abbrev encG (x:Option Addr × Nat × Nat):List Value:=[.slice x.1 x.2.1 x.2.2]
theorem eltG:Elt encG 45 117 1 24 (.slice none 0 0):=⟨Tryz.underlying45,by kernel_rfl,rfl,by omega,fun _=>rfl,fun x u hu=>by simp at hu;rcases hu with rfl;rfl⟩
section
variable {w w' : World}
end
end Go.Proofs.YtkpoodjhjfmfjaaGreatDoor
namespace Go.Proofs.YtkpoodjhjfmfjaaGreatDoor
open Go.RowKit
def gapB (S:BS) (f:Int->Int->Option (Int × Int)) (at_:Int):Bool:=S.fo ||(!S.ro && !(lockB (f at_ S.lock) && lockB (f (at_ - 1) S.lock)))
section
variable {w w' : World} {b : Nat} {S : BS} {f : Int → Int → Option (Int × Int)}
set_option maxRecDepth 100000 in
set_option maxHeartbeats 2000000 in
theorem gapOpen1_ok {k0 k1:Nat} (h:BufB w b S) (hG:GetAt w S.p f) (at_:Int) (ha0:0<=at_) (ha1:at_<=1000000000) (h0:w.cell? ⟨k0,0,none⟩=some (pAt b)) (h1:w.cell? ⟨k1,0,none⟩=some (.int .i64 at_)) :
  Calls Tryz.prog 166 #[pAt k0,pAt k1] w fun r w2=>r=.returned (.bool (gapB S f at_))/\Below w.heap.size w w2:=by
 have c5:w.cell? ⟨b,5,none⟩=some (.bool S.ro):=h.cell (j:=5) rfl
 have c6:w.cell? ⟨b,6,none⟩=some (.bool S.fo):=h.cell (j:=6) rfl
 have HB:=qH h
 have HG:=qH hG
 have HH0:=qH h0
 have HH1:=qH h1
 have s1:IntKind.i64.wrap (at_ - 1)=at_ - 1:=IntWalk.i64_in _ (by omega)
 clear h hG ha0 ha1
 obtain⟨R,hR⟩:∃ R,gapB S f at_=R:=⟨_,rfl⟩
 rw[hR]
 unfold gapB at hR
 cases hf:S.fo with
 | true=>
   rw[hf] at c6 hR
   have hRt:R=true:=by rw[<-hR];rfl
   subst hRt
   clear hR
   go_enter Tryz.func166,Tryz.ntmps166
   go_wp2_with fail
   go_ret
   exact⟨rfl,Below.refl _ _⟩
 | false=>
   rw[hf] at c6 hR
   cases hr:S.ro with
   | true=>
     rw[hr] at c5 hR
     have hRt:R=false:=by rw[<-hR];rfl
     subst hRt
     clear hR
     go_enter Tryz.func166,Tryz.ntmps166
     go_wp2_with fail
     go_ret
     exact⟨rfl,Below.refl _ _⟩
   | false=>
     rw[hr] at c5 hR
     have HL:=qH (locked_ok HB.out HG.out at_)
     cases hl:lockB (f at_ S.lock) with
     | false=>
       rw[hl] at hR HL
       have hRt:R=true:=by rw[<-hR];rfl
       subst hRt
       clear hR
       go_enter Tryz.func166,Tryz.ntmps166
       go_wp2_with fail
       refine HL.out.mono ?_
       rintro r w1 ⟨rfl,hb1⟩
       go_wp2_with fail
       go_ret
       exact⟨rfl,hb1⟩
     | true=>
       rw[hl] at hR HL
       cases hl2:lockB (f (at_ - 1) S.lock) with
       | false=>
         rw[hl2] at hR
         have hRt:R=true:=by rw[<-hR];rfl
         have HL2:=qH hl2
         subst hRt
         clear hR
         go_enter Tryz.func166,Tryz.ntmps166
         go_wp2_with fail
         refine HL.out.mono ?_
         rintro r w1 ⟨rfl,hb1⟩
         have g0:=cell_up HH0.out hb1
         have g1:=cell_up HH1.out hb1
         have hc:=locked_ok (HB.out.up hb1) (HG.out.up hb1) (at_ - 1)
         rw[HL2.out] at hc
         go_wp2_with fail
         refine hc.mono ?_
         rintro r w2 ⟨rfl,hb2⟩
         go_wp2_with fail
         go_ret
         exact⟨rfl,up2 hb1 hb2⟩
       | true=>
         rw[hl2] at hR
         have hRt:R=false:=by rw[<-hR];rfl
         have HL2:=qH hl2
         subst hRt
         clear hR
         go_enter Tryz.func166,Tryz.ntmps166
         go_wp2_with fail
         refine HL.out.mono ?_
         rintro r w1 ⟨rfl,hb1⟩
         have g0:=cell_up HH0.out hb1
         have g1:=cell_up HH1.out hb1
         have hc:=locked_ok (HB.out.up hb1) (HG.out.up hb1) (at_ - 1)
         rw[HL2.out] at hc
         go_wp2_with fail
         refine hc.mono ?_
         rintro r w2 ⟨rfl,hb2⟩
         go_wp2_with fail
         go_ret
         exact⟨rfl,up2 hb1 hb2⟩
set_option maxHeartbeats 1000000 in
theorem gapOpen_ok (h:BufB w b S) (hG:GetAt w S.p f) (at_:Int):Calls Tryz.prog 89 #[pAt b,.int .i64 at_] w fun r w'=>
  ∃ ke kf,r=.returned (unlC ke kf (if gapB S f at_ then 0 else 14)).val/\Below w.heap.size w w'/\ChkAt w' (0<=at_/\at_<=1000000000) (unlC ke kf (if gapB S f at_ then 0 else 14)):=by
 have HB:=qH h
 have HG:=qH hG
 clear h hG
 obtain⟨E,hE⟩:∃ E:Int,(if gapB S f at_ then (0:Int) else 14)=E:=⟨_,rfl⟩
 rw[hE]
 have HE:=qH hE
 clear hE
 go_enter Tryz.func89,Tryz.ntmps89
 go_wp2_with fail
 have hb3:=below2 w (.cells #[pAt b] 22) (.cells #[.int .i64 at_] 3)
 obtain⟨a0,a1⟩:=al2 w (pAt b) (.int .i64 at_) 22 3
 generalize (w.alloc (.cells #[pAt b] 22)).alloc (.cells #[.int .i64 at_] 3)=W at *
 refine(unless_ok 14 166 #[] #[pAt w.heap.size,pAt (w.heap.size+1)] W).mono ?_
 rintro r w1 ⟨rfl,hb1,he,hf⟩
 go_wp2_with fail
 go_ret
 refine⟨_,_,rfl,up2 hb3 hb1,HE.out▸ChkAt.unless (p:=gapB S f at_) (enters_mk Tryz.func166 (by kernel_rfl) rfl) he hf fun hp w2 hb2=>?_⟩
 exact gapOpen1_ok (((HB.out.up hb3).up hb1).up hb2) (((HG.out.up hb3).up hb1).up hb2) at_ hp.1 hp.2 (cell_up a0 (up2 hb1 hb2)) (cell_up a1 (up2 hb1 hb2))
end
end Go.Proofs.YtkpoodjhjfmfjaaGreatDoor
namespace Go.Proofs.YtkpoodjhjfmfjaaGreatDoor
open Go.RowKit
section
variable {α : Type} (enc : α → List Value) (E k : Nat)
def OOwn (w:World) (v:Value) (zs:List α):Prop:=(v=.slice none 0 0/\zs=[])\/∃ g o cap cur,v=.slice (some ⟨g,o,none⟩) zs.length cap/\w.heap[g]?=some (.cells cur E (0,0))/\zs.length<=cap/\cap<=maxLen/\o+cap*k<=cur.size /\
 ∀ j u,(cellsL enc zs)[j]?=some u->cur[o+j]?=some u
end
section
variable {α : Type} {enc : α → List Value} {T E k by_ B : Nat} {z : Value} {w w' : World} {A : Option Addr} {zs xs ys : List α} {v : Value}
theorem OOwn.nil (w:World):OOwn enc E k w (.slice none 0 0) []:=.inl ⟨rfl,rfl⟩
theorem ROwn.o (I:Elt enc T E k by_ z) (h:ROwn enc E k B w v zs):OOwn enc E k w v zs:=by
 rcases h.2 with ⟨rfl,h0⟩|⟨g,cap,cur,rfl,_,hg,hnc,hcm,hsz,htk⟩
 ·exact .inl ⟨rfl,List.eq_nil_of_length_eq_zero h0⟩
 ·refine .inr ⟨g,0,cap,cur,rfl,hg,hnc,hcm,by omega,fun j u hu=>?_⟩
  have hj:j<(cellsL enc zs).length:=(List.getElem?_eq_some_iff.1 hu).1
  rw[<-htk,List.getElem?_take] at hu
  split at hu
  ·rw[Nat.zero_add];simpa using hu
  ·cases hu
theorem OOwn.shape (I:Elt enc T E k by_ z) (h:OOwn enc E k w v zs):∃ A cap,v=.slice A zs.length cap/\zs.length<=cap/\cap<=maxLen/\RSl enc w A zs:=by
 rcases h with ⟨rfl,rfl⟩|⟨g,o,cap,cur,rfl,hg,hnc,hcm,hsz,hc⟩
 ·exact⟨none,0,rfl,by simp,by simp,RSl.nil _ _⟩
 ·exact⟨_,cap,rfl,hnc,hcm,fun hp=>⟨g,o,rfl,(Array.getElem?_eq_some_iff.1 hg).1,fun j u hu=>by simp only[World.cell?,hg];simpa using hc j u hu⟩⟩
theorem OOwn.kept (h:OOwn enc E k w v zs) (hk:∀ g,v.ownBlock=some g->w'.heap[g]?=w.heap[g]?):OOwn enc E k w' v zs:=by
 rcases h with h0|⟨g,o,cap,cur,rfl,hg,r⟩
 ·exact .inl h0
 ·exact .inr ⟨g,o,cap,cur,rfl,(hk g rfl).trans hg,r⟩
theorem OOwn.lt (h:OOwn enc E k w v zs) {g:Nat} (hg:v.ownBlock=some g):g<w.heap.size:=by
 rcases h with ⟨rfl,_⟩|⟨g',o,cap,cur,rfl,hh,r⟩
 ·simp[Value.ownBlock] at hg
 ·simp[Value.ownBlock] at hg;subst hg;exact(Array.getElem?_eq_some_iff.1 hh).1
theorem OOwn.up (h:OOwn enc E k w v zs) (hb:Below w.heap.size w w'):OOwn enc E k w' v zs:=h.kept fun g hg=>hb.block g (h.lt hg)
theorem OOwn.tail (I:Elt enc T E k by_ z) {A:Option Addr} {n c:Nat} {x:α} (h:OOwn enc E k w (.slice A n c) (x :: xs)) :
  n=xs.length+1/\OOwn enc E k w (.slice (if c=1 then A else A.map (·.add k)) (n - 1) (c - 1)) xs:=by
 rcases h with ⟨_,h⟩|⟨g,o,cap,cur,e,hg,hnc,hcm,hsz,hc⟩
 ·cases h
 ·cases e
  refine⟨by simp,?_⟩
  simp only[List.length_cons] at hnc ⊢
  by_cases h1:c=1
  ·have hx:xs=[]:=List.eq_nil_of_length_eq_zero (by omega)
   subst hx
   rw[if_pos h1]
   subst h1
   exact .inr ⟨g,o,0,cur,rfl,hg,by simp,by omega,by omega,by simp[cellsL]⟩
  ·rw[if_neg h1]
   refine .inr ⟨g,o+k,c - 1,cur,by simp[Addr.add],hg,by omega,by omega,?_,fun j u hu=>?_⟩
   ·have:c=(c - 1)+1:=by omega
    rw[this,Nat.add_mul] at hsz;omega
   ·have h2:=hc (k+j) u (by rw[cellsL_cons,List.getElem?_append_right (by rw[I.len];omega),I.len,Nat.add_sub_cancel_left];exact hu)
    rw[<-Nat.add_assoc] at h2
    exact h2
theorem OOwn.push (I:Elt enc T E k by_ z) (h:OOwn enc E k w v xs) (x:α) (hlen:xs.length+1<=1000000000) (hby:by_<=100000) :
  ∃ v' w',(∀ ty,(Builtin.append_ #[T,T] ty #[v,.slice (some ⟨w.heap.size,0,none⟩) 1 1]).run Tryz.prog (w.alloc (.cells (enc x).toArray E))=.ok v' w')/\OOwn enc E k w' v' (xs++[x])/\Only (fun g=>v.ownBlock=some g) w w'/\(v'.ownBlock=v.ownBlock\/∃ g,v'.ownBlock=some g/\w.heap.size<=g):=by
 rcases h with ⟨rfl,rfl⟩|⟨g,o,cap,cur,rfl,hg,hnc,hcm,hsz,hc⟩
 ·obtain⟨v',w',h1,h2,h3,h4,h5⟩:=append_elem I (B:=0) (w:=w) (ROwn.nil 0 w) (Nat.zero_le _) x (by simp) hby
  exact⟨v',w',h1,h2.o I,h4,h5⟩
 obtain⟨io,hi,hz0,hz1,hz2⟩:=info_parts I.info
 have hgl:=(Array.getElem?_eq_some_iff.1 hg).1
 have hal:=(MapKept.heap_alloc w (.cells (enc x).toArray E)).2
 have hnews:∀ j u,(enc x)[j]?=some u->(w.alloc (.cells (enc x).toArray E)).cell? ((⟨w.heap.size,0,none⟩:Addr).add j)=some u:=fun j u hu=>by
  rw[Go.WideShapes.add_plain]
  simp only[World.cell?,(MapKept.heap_alloc w _).1,Nat.zero_add]
  simpa using hu
 have hgA:(w.alloc (.cells (enc x).toArray E)).heap[g]?=some (.cells cur E (0,0)):=(hal g hgl).trans hg
 by_cases hroom:xs.length+1<=cap
 ·have hb:o+xs.length*k+k<=cur.size:=by
   have:(xs.length+1)*k<=cap*k:=Nat.mul_le_mul_right _ hroom
   rw[Nat.add_mul] at this;omega
  have hr:=fun ty=>run_append_room_cells (P:=Tryz.prog) (w.alloc (.cells (enc x).toArray E)) T ty E io I.ht hi g o xs.length cap ⟨w.heap.size,0,none⟩ 1 1 (enc x) (by rw[I.len,hz1];omega) hnews (I.one x) hroom
   (fun j hj=>by
    rw[hz1];rw[I.len] at hj
    simp only[World.cell?,hgA]
    simp;omega)
   (fun j hj=>by simp[World.frozen?,hgA])
  rw[hz1] at hr
  have hcl:(w.alloc (.cells (enc x).toArray E)).heap[g]?=some (.cells cur.toList.toArray E (0,0)):=by simpa using hgA
  have hl:=I.len x
  refine⟨_,_,hr,.inr ⟨g,o,cap,(stL cur.toList (o+xs.length*k) (enc x)).toArray,by simp,heap_setCells (enc x) _ _ _ hcl,by simpa using hroom,hcm,by simp[stL_length];exact hsz,fun j u hu=>?_⟩,?_,.inl rfl⟩
  ·have hn:=cellsL_length I.len xs
   rw[stL_eq _ _ _ (by rw[hl];simpa using hb)]
   simp only[List.getElem?_toArray]
   rw[cellsL_append] at hu
   have hlt:(cur.toList.take (o+xs.length*k)).length=o+xs.length*k:=by simp;omega
   by_cases hj:j<xs.length*k
   ·rw[List.getElem?_append_left (by rw[hn];exact hj)] at hu
    rw[List.append_assoc,List.getElem?_append_left (by rw[hlt];omega),List.getElem?_take_of_lt (by omega)]
    simpa using hc j u hu
   ·rw[List.getElem?_append_right (by rw[hn];omega),hn] at hu
    rw[List.append_assoc,List.getElem?_append_right (by rw[hlt];omega),hlt]
    have hj2:j - xs.length*k<(enc x).length:=by
     have:=(List.getElem?_eq_some_iff.1 hu).1
     simpa [cellsL] using this
    rw[show o+j -(o+xs.length*k)=j - xs.length*k by omega,List.getElem?_append_left hj2]
    simpa [cellsL] using hu
  ·exact(((Only.refl (fun i=>(Value.slice (some ⟨g,o,none⟩) xs.length cap).ownBlock=some i) w).alloc _).trans ((only_setCells (g:=g) (enc x) (o+xs.length*k) _).mono (fun i hi=>by subst hi;rfl)))
 ·obtain⟨v',w',hr,hown,hgr⟩:=run_append_arg_grows (P:=Tryz.prog) (w.alloc (.cells (enc x).toArray E)) T 0 E io z k by_ I.ht hi hz0 hz1 hz2 I.zs I.k0 ⟨g,o,none⟩ xs.length cap (cellsL enc xs) (cellsL_length I.len xs)
   (fun j u hu=>by rw[Go.WideShapes.add_plain];simp only[World.cell?,hgA];simpa using hc j u hu) ⟨w.heap.size,0,none⟩ 1 1 (enc x) (by rw[I.len];omega) hnews (by omega) (by unfold maxLen;omega)
   (Nat.le_trans (Nat.mul_le_mul hlen hby) (by omega))
  have hO:ROwn enc E k (w.alloc (.cells (enc x).toArray E)).heap.size w' v' (xs++[x]):=by
   unfold ROwn
   rw[List.length_append,cellsL_append,show cellsL enc [x]=enc x by simp[cellsL]]
   exact hown
  refine⟨v',w',fun ty=>hr,hO.o I,⟨hgr.os,hgr.tape,hgr.output,by have:=hgr.size;simp at this;omega,fun i hi hs=>(hgr.block i (by simp;omega) (by simp)).trans (hal i hi)⟩,?_⟩
  rcases hO.2 with ⟨rfl,h0⟩|⟨g2,cap2,cur2,rfl,hb2,_⟩
  ·simp at h0
  ·exact .inr ⟨g2,rfl,by simp at hb2;omega⟩
end
end Go.Proofs.YtkpoodjhjfmfjaaGreatDoor
