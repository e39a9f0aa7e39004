/- A part of the proof of BufferNames: package buffer and its parts. -/
import Derived.Test.YtkpoodjhjfmfjaaGreatDoorZ00
import Derived.Lib.Overlaps
import Derived.Lib.AppendZerosOnto
import Derived.Laws.IdiomCopy
import Derived.Laws.NewBlocks
import Derived.ArgAppend
import Derived.Laws.Externs
import Derived.BigRegion
import Derived.Laws.StructEq
import Derived.BigQuiet
import Derived.Maps.RangeWalk
import Derived.Maps.OwnSet
import Derived.IntWalk
set_option linter.unusedVariables false
set_option linter.unusedSimpArgs false
namespace Go.Proofs.YtkpoodjhjfmfjaaGreatDoor.Ovs
open Go.RowKit Go.Lib
section
variable {P : Program} {w : World}
def stL (cur:List Value):Nat->List Value->List Value
 | _,[]=>cur
 | o,v :: r=>stL (cur.set o v) (o+1) r
theorem stL_eq:∀(vs cur:List Value) (o:Nat),o+vs.length<=cur.length->stL cur o vs=cur.take o++vs++cur.drop (o+vs.length)
 | [],cur,o,h=>by simp[stL]
 | v :: r,cur,o,h=>by
   simp only[List.length_cons] at h
   rw[stL,stL_eq r (cur.set o v) (o+1) (by simp;omega)]
   have h1:(cur.set o v).take (o+1)=cur.take o++[v]:=by
    rw[List.take_succ_eq_append_getElem (by simp;omega),List.take_set_of_le (Nat.le_refl _)];simp
   have h2:(cur.set o v).drop (o+1+r.length)=cur.drop (o+1+r.length):=List.drop_set_of_lt (by omega)
   rw[h1,h2,List.length_cons,show o+(r.length+1)=o+1+r.length by omega]
   simp
theorem stL_length:∀(vs cur:List Value) (o:Nat),(stL cur o vs).length=cur.length
 | [],cur,o=>rfl
 | v :: r,cur,o=>by rw[stL,stL_length r];simp
theorem heap_setCells {g:Nat} {E:TypeId}:∀(vs:List Value) (o:Nat) (w:World) (cur:List Value),w.heap[g]?=some (.cells cur.toArray E (0,0))->(w.setCells g o vs).heap[g]?=some (.cells (stL cur o vs).toArray E (0,0))
 | [],o,w,cur,h=>h
 | v :: r,o,w,cur,h=>by
   rw[World.setCells,stL]
   refine heap_setCells r (o+1) _ _ ?_
   have:=heap_setCell_same w g o _ _ v h
   simpa using this
theorem only_setCells {g:Nat}:∀(vs:List Value) (o:Nat) (w:World),Only (·=g) w (w.setCells g o vs)
 | [],o,w=>Only.refl _ _
 | v :: r,o,w=>((Only.refl (·=g) w).setCell (p:=⟨g,o,none⟩) rfl v).trans (only_setCells r (o+1) _)
theorem run_copy_k (w:World) (dT sT ty elem:TypeId) (b o dLen dCap:Nat) (a:Addr) (sLen sCap k:Nat) (cs:List Value)
  (hu:P.underlying dT=some (.slice elem)) (hs:(P.info? elem).map (·.size)=some k) (hn:cs.length=Nat.min sLen dLen*k)
  (hsrc:∀ j v,cs[j]?=some v->w.cell? (a.add j)=some v) (hc:∀ j,j<cs.length->(w.cell? ⟨b,o+j,none⟩).isSome=true) (hf:∀ j,j<cs.length->w.frozen? ⟨b,o+j,none⟩=false) (h1:∀ v ∈ cs,v.oneCell'=true) :
  (Builtin.copy_ #[dT,sT] ty #[.slice (some ⟨b,o,none⟩) dLen dCap,.slice (some a) sLen sCap]).run P w=.ok (goInt (Nat.min sLen dLen)) (w.setCells b o cs):=by
 have hl:=run_loadCells_list (P:=P) w a cs hsrc
 have hst:=run_storeCells_cells (P:=P) b o cs 0 w (by simpa using hc) (by simpa using hf) h1
 cases hq:P.info? elem with
 | none=>simp[hq] at hs
 | some i=>
   have hi:i.size=k:=by simpa [hq] using hs
   simp[Builtin.copy_,run_underlying hu,Builtin.lenOf,Builtin.firstCells,sizeOf,typeInfo,hq,hi,<-hn,hl,hst]
end
section
variable {w w' : World} {ps : List PropE} {p : PropE} {v : Value} {A : Option Addr}
end
section
variable {w w' : World} {ps : List PropE} {p : PropE} {v : Value} {A : Option Addr}
theorem wpList_cp_run {P:Program} {w w':World} {ops:Array Oper} {rest:List Oper} {o:Oper} {a:Act} {Q:Exit->Act->World->Prop} {v u v':Value} (hgd:o.guard=none) (s x:Operand) (t:TypeId)
  (ho:o.op=.call { callee:=.builtin .copy,args:=#[s,x],argTypes:=#[t,t] }) (hs:a.eval s=v) (hx:a.eval x=u)
  (hr:∀ ty,(Builtin.copy_ #[t,t] ty #[v,u]).run P w=.ok v' w') (h:wpList P ops Q rest (a.put o.dst v') w'):wpList P ops Q (o :: rest) a w:=by
 refine wpList_plain hgd fun K hK=>?_
 unfold Oper.wp execOp
 simp only[ho,resolve,invoke,builtin,Sem.run_bind,Sem.run_pure,Result.andThen_ok,List.map_toArray,List.map_cons,List.map_nil,hs,hx,hr]
 exact hK _ _ h
end
section
variable {w w' : World} {ps : List PropE} {p : PropE} {v : Value} {A : Option Addr}
end
section
variable {w w' : World} {ps : List PropE} {p : PropE} {v : Value} {A : Option Addr}
end
end Go.Proofs.YtkpoodjhjfmfjaaGreatDoor.Ovs
namespace Go.Proofs.YtkpoodjhjfmfjaaGreatDoor
open Go.RowKit
open Ovs (PropE encP eltP)
instance decProp:DecidableEq PropE:=fun a b=>
 if h:a.name=b.name/\a.kind=b.kind/\a.n=b.n then isTrue (by obtain⟨a1,a2,a3⟩:=a;obtain⟨b1,b2,b3⟩:=b;obtain⟨h1,h2,h3⟩:=h;dsimp only at h1 h2 h3;subst h1 h2 h3;rfl)
 else isFalse (fun e=>h (by subst e;exact⟨rfl,rfl,rfl⟩))
structure Pc where
 f:Int
 t:Int
 ps:List PropE
structure PcE where
 f:Int
 t:Int
 A:Option Addr
 c:Nat
 ps:List PropE
def PcE.dat (x:PcE):Pc:=⟨x.f,x.t,x.ps⟩
abbrev PcE.pv (x:PcE):Value:=.slice x.A x.ps.length x.c
abbrev encPc (x:PcE):List Value:=[.int .i64 x.f,.int .i64 x.t,.slice x.A x.ps.length x.c]
def addP (l:List Pc) (f t:Int) (ps:List PropE):List Pc:=
 if t<=f\/ps=[] then l else
 match l.getLast? with
 | some k=>if k.t=f/\k.ps=ps then l.dropLast++[⟨k.f,t,k.ps⟩] else l++[⟨f,t,ps⟩]
 | none=>[⟨f,t,ps⟩]
def firstP (l:List Pc) (a:Int):Nat:=(l.takeWhile (fun x=>decide (x.t<=a))).length
theorem firstP_le (l:List Pc) (a:Int):firstP l a<=l.length:=(List.takeWhile_sublist _).length_le
theorem firstP_eq:∀(l:List Pc) (c:Int) (k:Nat),k<=l.length->(∀ j x,j<k->l[j]?=some x->x.t<=c)->(∀ x,l[k]?=some x->¬ x.t<=c)->firstP l c=k
 | [],c,k,hk,_,_=>by simp at hk;subst hk;rfl
 | a :: l,c,0,hk,_,h=>by
   have:=h a rfl
   unfold firstP
   rw[List.takeWhile_cons,if_neg (by simpa using this)];rfl
 | a :: l,c,k+1,hk,h1,h2=>by
   have h0:=h1 0 a (by omega) rfl
   have ih:=firstP_eq l c k (by simpa using hk) (fun j x hj hx=>h1 (j+1) x (by omega) hx) h2
   unfold firstP at ih ⊢
   rw[List.takeWhile_cons,if_pos (by simpa using h0),List.length_cons,ih]
def fillP (g:List PropE->List PropE) (s:List Pc × Int) (e:Int):List Pc × Int:=if s.2<e then (addP s.1 s.2 e (g []),e) else s
def midP (from_ tq:Int) (g:List PropE->List PropE) (s:List Pc × Int) (p:Pc):List Pc × Int:=
 if max p.f from_<min p.t tq then (addP (fillP g s (max p.f from_)).1 (max p.f from_) (min p.t tq) (g p.ps),min p.t tq) else s
def tailP (tq:Int) (g:List PropE->List PropE) (s:List Pc × Int) (p:Pc):List Pc × Int:=
 if p.t > tq then (addP (fillP g s tq).1 (max p.f tq) p.t p.ps,(fillP g s tq).2) else s
def stepP (from_ tq:Int) (g:List PropE->List PropE) (s:List Pc × Int) (p:Pc):List Pc × Int:=
 tailP tq g (midP from_ tq g (addP s.1 p.f (min p.t from_) p.ps,s.2) p) p
def changedP (l:List Pc) (from_ tq:Int) (g:List PropE->List PropE):List Pc:=(fillP g (l.foldl (stepP from_ tq g) ([],from_)) tq).1
def loP (l:List Pc) (a:Int):Nat:=firstP l a - 1
def hiP (l:List Pc) (a:Int):Nat:=min l.length (firstP l a+1)
def changeP (l:List Pc) (from_ tq:Int) (g:List PropE->List PropE):List Pc:=
 l.take (loP l from_)++changedP ((l.drop (loP l from_)).take (hiP l tq - loP l from_)) from_ tq g++l.drop (hiP l tq)
def withP (x:PropE) (l:List PropE):List PropE:=
 l.takeWhile (fun y=>decide (y.name<x.name))++x ::(match l.dropWhile (fun y=>decide (y.name<x.name)) with|y :: r=>if y.name=x.name then r else y :: r|[]=>[])
def withoutP (nm:Int) (l:List PropE):List PropE:=l.filter (fun y=>!(y.name == nm))
def mayP (f t:Int):Bool:=decide (1<=f) && decide (f<=t) && decide (t<=65537)
def checkP (f t nm:Int):Int:=if mayP f t=false then 3 else if nm<0 then 17 else 0
def maxSpans:Nat:=1024
def maxProps:Nat:=64
def fullP (l:List Pc):Bool:=decide (maxSpans<l.length) || l.any (fun x=>decide (maxProps<x.ps.length))
def getL (l:List PropE) (nm:Int):Option (Int × Int):=(l.find? (fun y=>y.name == nm)).map (fun y=>(y.kind,y.n))
def listP (l:List Pc) (a:Int):List PropE:=match l[firstP l a]? with|some p=>if p.f<=a then p.ps else []|none=>[]
def endsP (l:List Pc):List Int:=l.flatMap (fun p=>[p.f,p.t])
def nextP (same:List PropE->List PropE->Bool) (l:List Pc) (a most:Int):Int:=
 match (endsP l).find? (fun b=>decide (b > a) && decide (b<most) && !same (listP l a) (listP l b)) with|some b=>b|none=>most
def spansP (l:List Pc) (f t by_:Int):List Pc:=
 if mayP f t=true then l.filterMap (fun p=>if max p.f f<min p.t t then some ⟨max p.f f+by_,min p.t t+by_,p.ps⟩ else none) else []
def insStep (a n:Int) (o:List Pc) (p:Pc):List Pc:=
 let o1:=addP o p.f (min p.t a) p.ps
 if p.t > a then addP o1 (max p.f a+n) (p.t+n) p.ps else o1
def insFit (l:List Pc) (a n:Int):Bool:=match l.getLast? with|some p=>!(decide (p.t > a) && decide (p.t+n > 65537))|none=>true
def insertedE (l:List Pc) (a n:Int):Int:=if a<1\/65537<a then 3 else if n<0\/65536<n then 2 else if insFit l a n=true then 0 else 3
def insertedP (l:List Pc) (a n:Int):List Pc:=if insertedE l a n=0 then l.foldl (insStep a n) [] else l
def delStep (f t:Int) (o:List Pc) (p:Pc):List Pc:=addP (addP o p.f (min p.t f) p.ps) (max p.f t -(t - f)) (p.t -(t - f)) p.ps
def deletedE (f t:Int):Int:=if mayP f t=true then 0 else 3
def deletedP (l:List Pc) (f t:Int):List Pc:=if mayP f t=true then l.foldl (delStep f t) [] else l
def putE (l:List Pc) (f t:Int) (x:PropE):Int:=if checkP f t x.name≠0 then checkP f t x.name else if fullP (changeP l f t (withP x))=true then 7 else 0
def putP (l:List Pc) (f t:Int) (x:PropE):List Pc:=if putE l f t x=0 then changeP l f t (withP x) else l
def takePP (l:List Pc) (f t nm:Int):List Pc:=if checkP f t nm=0 then changeP l f t (withoutP nm) else l
end Go.Proofs.YtkpoodjhjfmfjaaGreatDoor
namespace Go.Proofs.YtkpoodjhjfmfjaaGreatDoor
open Go.RowKit
open Ovs (PropE encP eltP SortedP)
structure PcK (m:Nat) (x:Pc):Prop where
 f1:1<=x.f
 ft:x.f<x.t
 t1:x.t<=65537
 ne:x.ps≠[]
 len:x.ps.length<=m
 so:SortedP x.ps
structure Upto (m:Nat) (l:List Pc) (e:Int):Prop where
 pw:l.Pairwise (fun x y=>x.t<=y.f)
 le:∀ x ∈ l,x.t<=e
 ok:∀ x ∈ l,PcK m x
def Low (l:List Pc) (e:Int):Prop:=∀ x ∈ l,e<=x.f
section
variable {m : Nat} {l : List Pc} {e e' f t : Int} {ps : List PropE} {from_ tq : Int} {g : List PropE → List PropE}
theorem Upto.nil (m:Nat) (e:Int):Upto m [] e:=⟨List.Pairwise.nil,by simp,by simp⟩
theorem Upto.mono (h:Upto m l e) (he:e<=e'):Upto m l e':=⟨h.pw,fun x hx=>Int.le_trans (h.le x hx) he,h.ok⟩
theorem Upto.snoc (h:Upto m l e) {x:Pc} (hf:e<=x.f) (hx:PcK m x) (he:x.t<=e'):Upto m (l++[x]) e':=by
 refine⟨List.pairwise_append.2 ⟨h.pw,List.pairwise_singleton _ _,fun y hy z hz=>?_⟩,fun y hy=>?_,fun y hy=>?_⟩
 ·obtain rfl:z=x:=by simpa using hz
  exact Int.le_trans (h.le y hy) hf
 ·rcases List.mem_append.1 hy with hy|hy
  ·have:=h.le y hy;have:=hx.ft;omega
  ·obtain rfl:y=x:=by simpa using hy
   exact he
 ·rcases List.mem_append.1 hy with hy|hy
  ·exact h.ok y hy
  ·obtain rfl:y=x:=by simpa using hy
   exact hx
theorem getLast_split {l:List Pc} {k:Pc} (h:l.getLast?=some k):l=l.dropLast++[k]:=by
 have hne:l≠[]:=fun e=>by subst e;simp at h
 have:=List.dropLast_concat_getLast hne
 rw[List.getLast?_eq_some_getLast hne] at h
 cases h
 exact this.symm
theorem addP_skip (h:t<=f\/ps=[]):addP l f t ps=l:=by unfold addP;rw[if_pos h]
theorem addP_upto (h:Upto m l e) (hf:f<t->ps≠[]->e<=f/\1<=f/\t<=65537/\t<=e') (he:e<=e') (hl:ps.length<=m) (hs:SortedP ps):Upto m (addP l f t ps) e':=by
 unfold addP
 split
 ·exact h.mono he
 ·rename_i hc
  have h1:f<t:=by omega
  have h2:ps≠[]:=fun e=>hc (.inr e)
  obtain⟨a1,a2,a3,a4⟩:=hf h1 h2
  split
  ·rename_i k hk
   split
   ·rename_i hkk
    have hsp:=getLast_split hk
    have hkm:k ∈ l:=List.mem_of_getLast? hk
    have hkk':=h.ok k hkm
    have hU:Upto m l.dropLast k.f:=by
     have hpw:=h.pw
     rw[hsp] at hpw
     exact⟨(List.pairwise_append.1 hpw).1,fun x hx=>(List.pairwise_append.1 hpw).2.2 x hx k (by simp),fun x hx=>h.ok x ((List.dropLast_sublist _).subset hx)⟩
    exact hU.snoc (x:=⟨k.f,t,k.ps⟩) (Int.le_refl _) ⟨hkk'.f1,by have:=hkk'.ft;show k.f<t;omega,a3,hkk'.ne,hkk'.len,hkk'.so⟩ a4
   ·exact h.snoc (x:=⟨f,t,ps⟩) a1 ⟨a2,h1,a3,h2,hl,hs⟩ a4
  ·rename_i hk
   have:l=[]:=by simpa using hk
   subst this
   exact(Upto.nil m e).snoc (x:=⟨f,t,ps⟩) a1 ⟨a2,h1,a3,h2,hl,hs⟩ a4
theorem addP_low (h:Low l e) (hf:f<t->e<=f):Low (addP l f t ps) e:=by
 unfold addP
 split
 ·exact h
 ·rename_i hc
  have h1:=hf (by omega)
  split
  ·rename_i k hk
   have hkm:=h k (List.mem_of_getLast? hk)
   split
   ·intro x hx
    rcases List.mem_append.1 hx with hx|hx
    ·exact h x ((List.dropLast_sublist _).subset hx)
    ·obtain rfl:x=⟨k.f,t,k.ps⟩:=by simpa using hx
     exact hkm
   ·intro x hx
    rcases List.mem_append.1 hx with hx|hx
    ·exact h x hx
    ·obtain rfl:x=⟨f,t,ps⟩:=by simpa using hx
     exact h1
  ·intro x hx
   obtain rfl:x=⟨f,t,ps⟩:=by simpa using hx
   exact h1
structure KeepsP (m m':Nat) (g:List PropE->List PropE):Prop where
 len:∀ ps,ps.length<=m->(g ps).length<=m'
 so:∀ ps,SortedP ps->SortedP (g ps)
theorem sorted_nil:SortedP []:=List.Pairwise.nil
structure ChgI (m:Nat) (from_ tq:Int) (s:List Pc × Int) (c:Int):Prop where
 u:Upto m s.1 c
 a:s.2=min (max from_ c) tq
theorem stepP_ok {m m':Nat} {s:List Pc × Int} {c lo:Int} {p:Pc} (hg:KeepsP m m' g) (hm:m<=m') (hft:from_<=tq) (h1:1<=from_) (ht:tq<=65537) (h:ChgI m' from_ tq s c) (hp:PcK m p) (hc:c<=p.f) (hlo:Low s.1 lo) (hl1:lo<=p.f) (hl2:lo<=from_) :
  ChgI m' from_ tq (stepP from_ tq g s p) p.t/\Low (stepP from_ tq g s p).1 lo:=by
 obtain⟨out,at_⟩:=s
 obtain⟨hu,ha⟩:=h
 dsimp only at hu ha hlo
 obtain⟨p1,p2,p3,p4,p5,p6⟩:=hp
 have e1:Upto m' (addP out p.f (min p.t from_) p.ps) (max c (min p.t from_)):=addP_upto hu (fun _ _=>by omega) (by omega) (by omega) p6
 have l1:Low (addP out p.f (min p.t from_) p.ps) lo:=addP_low hlo (fun _=>hl1)
 unfold stepP
 dsimp only
 generalize addP out p.f (min p.t from_) p.ps=o1 at *
 have g0:(g []).length<=m':=hg.len [] (by simp)
 have g1:=hg.so [] sorted_nil
 have g2:=hg.len p.ps p5
 have g3:=hg.so p.ps p6
 by_cases hab:max p.f from_<min p.t tq
 ·have hmid:midP from_ tq g (o1,at_) p=(addP (fillP g (o1,at_) (max p.f from_)).1 (max p.f from_) (min p.t tq) (g p.ps),min p.t tq):=by unfold midP;rw[if_pos hab]
  rw[hmid]
  have f1:Upto m' (fillP g (o1,at_) (max p.f from_)).1 (max p.f from_)/\Low (fillP g (o1,at_) (max p.f from_)).1 lo:=by
   unfold fillP
   dsimp only
   split
   ·exact⟨addP_upto e1 (fun _ _=>by omega) (by omega) g0 g1,addP_low l1 (fun _=>by omega)⟩
   ·exact⟨e1.mono (by omega),l1⟩
  have e2:Upto m' (addP (fillP g (o1,at_) (max p.f from_)).1 (max p.f from_) (min p.t tq) (g p.ps)) (min p.t tq):=addP_upto f1.1 (fun _ _=>by omega) (by omega) g2 g3
  have l2:Low (addP (fillP g (o1,at_) (max p.f from_)).1 (max p.f from_) (min p.t tq) (g p.ps)) lo:=addP_low f1.2 (fun _=>by omega)
  generalize addP (fillP g (o1,at_) (max p.f from_)).1 (max p.f from_) (min p.t tq) (g p.ps)=o2 at *
  unfold tailP
  split
  ·have hfl:fillP g (o2,min p.t tq) tq=(o2,min p.t tq):=by unfold fillP;dsimp only;rw[if_neg (by omega)]
   rw[hfl]
   exact⟨⟨addP_upto e2 (fun _ _=>by omega) (by omega) (by omega) p6,by dsimp only;omega⟩,addP_low l2 (fun _=>by omega)⟩
  ·exact⟨⟨e2.mono (by omega),by dsimp only;omega⟩,l2⟩
 ·have hmid:midP from_ tq g (o1,at_) p=(o1,at_):=by unfold midP;rw[if_neg hab]
  rw[hmid]
  unfold tailP
  split
  ·unfold fillP
   dsimp only
   split
   ·have e2:Upto m' (addP o1 at_ tq (g [])) tq:=addP_upto e1 (fun _ _=>by omega) (by omega) g0 g1
    exact⟨⟨addP_upto e2 (fun _ _=>by omega) (by omega) (by omega) p6,by dsimp only;omega⟩,addP_low (addP_low l1 (fun _=>by omega)) (fun _=>by omega)⟩
   ·exact⟨⟨addP_upto e1 (fun _ _=>by omega) (by omega) (by omega) p6,by dsimp only;omega⟩,addP_low l1 (fun _=>by omega)⟩
  ·exact⟨⟨e1.mono (by omega),by dsimp only;omega⟩,l1⟩
theorem foldP_ok {m m':Nat} {lo:Int} (hg:KeepsP m m' g) (hm:m<=m') (hft:from_<=tq) (h1:1<=from_) (ht:tq<=65537) (hl2:lo<=from_):∀(l:List Pc) (s:List Pc × Int) (c:Int),ChgI m' from_ tq s c->Low s.1 lo->l.Pairwise (fun x y=>x.t<=y.f)->(∀ x ∈ l,PcK m x)->(∀ x ∈ l,c<=x.f/\lo<=x.f) ->
  ∃ c',ChgI m' from_ tq (l.foldl (stepP from_ tq g) s) c'/\Low (l.foldl (stepP from_ tq g) s).1 lo/\(c'=c\/∃ x ∈ l,c'=x.t)
 | [],s,c,h,hl,_,_,_=>⟨c,h,hl,.inl rfl⟩
 | p :: l,s,c,h,hl,hp,hk,hc=>by
   obtain⟨s1,l1⟩:=stepP_ok hg hm hft h1 ht h (hk p (by simp)) (hc p (by simp)).1 hl (hc p (by simp)).2 hl2
   obtain⟨hp1,hp2⟩:=List.pairwise_cons.1 hp
   obtain⟨c',h2,h3,h4⟩:=foldP_ok hg hm hft h1 ht hl2 l _ p.t s1 l1 hp2 (fun x hx=>hk x (by simp[hx])) (fun x hx=>⟨hp1 x hx,(hc x (by simp[hx])).2⟩)
   exact⟨c',h2,h3,.inr (by rcases h4 with h4|⟨x,hx,h4⟩;exact⟨p,by simp,h4⟩;exact⟨x,by simp[hx],h4⟩)⟩
theorem changedP_ok {m m':Nat} {lo hi:Int} (hg:KeepsP m m' g) (hm:m<=m') (hft:from_<=tq) (h1:1<=from_) (ht:tq<=65537) (hl2:lo<=from_) (hp:l.Pairwise (fun x y=>x.t<=y.f)) (hk:∀ x ∈ l,PcK m x) (hlo:∀ x ∈ l,lo<=x.f) (hh:tq<=hi) (hhi:∀ x ∈ l,x.t<=hi) :
  Upto m' (changedP l from_ tq g) hi/\Low (changedP l from_ tq g) lo:=by
 obtain⟨c',h2,h3,h4⟩:=foldP_ok (m:=m) (m':=m') (lo:=lo) hg hm hft h1 ht hl2 l ([],from_) 0 ⟨Upto.nil _ _,by dsimp only;omega⟩ (by intro x hx;simp at hx) hp hk (fun x hx=>⟨by have:=(hk x hx).f1;omega,hlo x hx⟩)
 have hc:c'<=hi:=by rcases h4 with rfl|⟨x,hx,rfl⟩;omega;exact hhi x hx
 unfold changedP
 generalize l.foldl (stepP from_ tq g) ([],from_)=s at *
 obtain⟨o,a⟩:=s
 obtain⟨hu,ha⟩:=h2
 dsimp only at hu ha h3
 unfold fillP
 dsimp only
 split
 ·exact⟨addP_upto hu (fun _ _=>by omega) (by omega) (hg.len [] (by simp)) (hg.so [] sorted_nil),addP_low h3 (fun _=>by omega)⟩
 ·exact⟨hu.mono hc,h3⟩
theorem firstP_lt {l:List Pc} {a:Int} {i:Nat} {x:Pc} (hi:i<firstP l a) (hx:l[i]?=some x):x.t<=a:=by
 unfold firstP at hi
 have h1:(l.takeWhile (fun x=>decide (x.t<=a)))[i]?=some x:=by
  have h2:=List.takeWhile_prefix (l:=l) (fun x=>decide (x.t<=a))
  obtain⟨r,hr⟩:=h2
  rw[<-hr,List.getElem?_append_left hi] at hx
  exact hx
 have:=List.all_takeWhile (l:=l) (p:=fun x=>decide (x.t<=a))
 rw[List.all_eq_true] at this
 have:=this x (List.mem_of_getElem? h1)
 simpa using this
theorem firstP_at:∀ {l:List Pc} {a:Int} {x:Pc},l[firstP l a]?=some x->a<x.t
 | [],a,x,h=>by simp at h
 | p :: l,a,x,h=>by
   unfold firstP at h
   rw[List.takeWhile_cons] at h
   split at h
   ·rename_i hp
    exact firstP_at (l:=l) (by unfold firstP;simpa using h)
   ·rename_i hp
    simp at h hp
    subst h;exact hp
structure PcsOk (l:List Pc):Prop where
 pw:l.Pairwise (fun x y=>x.t<=y.f)
 ok:∀ x ∈ l,PcK 64 x
theorem Upto.append {m:Nat} {l l':List Pc} {e e':Int} (h:Upto m l e) (h':Upto m l' e') (hl:Low l' e) (he:e<=e'):Upto m (l++l') e':=by
 refine⟨List.pairwise_append.2 ⟨h.pw,h'.pw,fun x hx y hy=>Int.le_trans (h.le x hx) (hl y hy)⟩,fun x hx=>?_,fun x hx=>?_⟩
 ·rcases List.mem_append.1 hx with hx|hx
  ·exact Int.le_trans (h.le x hx) he
  ·exact h'.le x hx
 ·rcases List.mem_append.1 hx with hx|hx
  ·exact h.ok x hx
  ·exact h'.ok x hx
theorem pw_get {l:List Pc} (h:l.Pairwise (fun x y=>x.t<=y.f)) {i j:Nat} {x y:Pc} (hi:l[i]?=some x) (hj:l[j]?=some y) (hij:i<j):x.t<=y.f:=by
 obtain⟨hil,hie⟩:=List.getElem?_eq_some_iff.1 hi
 obtain⟨hjl,hje⟩:=List.getElem?_eq_some_iff.1 hj
 have:=List.pairwise_iff_getElem.1 h i j hil hjl hij
 rwa [hie,hje] at this
theorem mem_take_get {l:List Pc} {n:Nat} {x:Pc} (h:x ∈ l.take n):∃ i,i<n/\l[i]?=some x:=by
 obtain⟨i,hi⟩:=List.mem_iff_getElem?.1 h
 rw[List.getElem?_take] at hi
 split at hi
 ·exact⟨i,by assumption,hi⟩
 ·cases hi
theorem mem_drop_get {l:List Pc} {n:Nat} {x:Pc} (h:x ∈ l.drop n):∃ i,n<=i/\l[i]?=some x:=by
 obtain⟨i,hi⟩:=List.mem_iff_getElem?.1 h
 rw[List.getElem?_drop] at hi
 exact⟨n+i,by omega,hi⟩
theorem changeP_ok {m':Nat} (h:PcsOk l) (hg:KeepsP 64 m' g) (hm:64<=m') (hft:from_<=tq) (h1:1<=from_) (ht:tq<=65537):Upto m' (changeP l from_ tq g) 65537:=by
 unfold changeP
 have hfl:=firstP_le l from_
 have htl:=firstP_le l tq
 have hi_:hiP l tq<=l.length:=by unfold hiP;omega
 have hlo_:loP l from_<=l.length:=by unfold loP;omega
 have hmono:firstP l from_<=firstP l tq:=by
  rcases Nat.lt_or_ge (firstP l tq) (firstP l from_) with hlt|hge
  ·obtain⟨x,hx⟩:∃ x,l[firstP l tq]?=some x:=⟨_,List.getElem?_eq_getElem (by omega)⟩
   have a1:=firstP_lt hlt hx
   have a2:=firstP_at hx
   omega
  ·exact hge
 have hmid:∀ x ∈ (l.drop (loP l from_)).take (hiP l tq - loP l from_),∃ i,loP l from_<=i/\i<hiP l tq/\l[i]?=some x:=fun x hx=>by
  obtain⟨i,hi,hx⟩:=mem_take_get hx
  rw[List.getElem?_drop] at hx
  exact⟨loP l from_+i,by omega,by omega,hx⟩
 have hpm:((l.drop (loP l from_)).take (hiP l tq - loP l from_)).Pairwise (fun x y=>x.t<=y.f):=h.pw.sublist ((List.take_sublist _ _).trans (List.drop_sublist _ _))
 have hkm:∀ x ∈ (l.drop (loP l from_)).take (hiP l tq - loP l from_),PcK 64 x:=fun x hx=>h.ok x (List.mem_of_mem_drop (List.mem_of_mem_take hx))
 have wide:∀ x ∈ l,PcK m' x:=fun x hx=>⟨(h.ok x hx).f1,(h.ok x hx).ft,(h.ok x hx).t1,(h.ok x hx).ne,by have:=(h.ok x hx).len;omega,(h.ok x hx).so⟩
 -- the bound below: the end of what lies ahead of the middle
 obtain⟨lo,hloF,hloT,hloM⟩:∃ lo:Int,lo<=from_/\(∀ x ∈ l.take (loP l from_),x.t<=lo)/\(∀ x ∈ (l.drop (loP l from_)).take (hiP l tq - loP l from_),lo<=x.f):=by
  rcases Nat.eq_zero_or_pos (loP l from_) with h0|h0
  ·refine⟨1,h1,by rw[h0];simp,fun x hx=>(hkm x hx).f1⟩
  ·obtain⟨y,hy⟩:∃ y,l[loP l from_ - 1]?=some y:=⟨_,List.getElem?_eq_getElem (by omega)⟩
   have hyl:loP l from_ - 1<firstP l from_:=by unfold loP at h0 ⊢;omega
   refine⟨y.t,firstP_lt hyl hy,fun x hx=>?_,fun x hx=>?_⟩
   ·obtain⟨i,hi,hx⟩:=mem_take_get hx
    rcases Nat.lt_or_ge i (loP l from_ - 1) with h2|h2
    ·have a1:=pw_get h.pw hx hy h2
     have:=(h.ok y (List.mem_of_getElem? hy)).ft
     omega
    ·obtain rfl:i=loP l from_ - 1:=by omega
     rw[hx] at hy;cases hy;exact Int.le_refl _
   ·obtain⟨i,hi,_,hx⟩:=hmid x hx
    exact pw_get h.pw hy hx (by omega)
 obtain⟨hi,hiT,hiM,hiD,hiK⟩:∃ hi:Int,tq<=hi/\(∀ x ∈ (l.drop (loP l from_)).take (hiP l tq - loP l from_),x.t<=hi)/\(∀ x ∈ l.drop (hiP l tq),hi<=x.f)/\hi<=65537:=by
  rcases Nat.lt_or_ge (firstP l tq) l.length with h2|h2
  ·obtain⟨y,hy⟩:∃ y,l[firstP l tq]?=some y:=⟨_,List.getElem?_eq_getElem h2⟩
   have e:hiP l tq=firstP l tq+1:=by unfold hiP;omega
   refine⟨y.t,by have:=firstP_at hy;omega,fun x hx=>?_,fun x hx=>?_,(h.ok y (List.mem_of_getElem? hy)).t1⟩
   ·obtain⟨i,_,hi,hx⟩:=hmid x hx
    rcases Nat.lt_or_ge i (firstP l tq) with h3|h3
    ·have a1:=pw_get h.pw hx hy h3
     have:=(h.ok y (List.mem_of_getElem? hy)).ft
     omega
    ·obtain rfl:i=firstP l tq:=by omega
     rw[hx] at hy;cases hy;exact Int.le_refl _
   ·obtain⟨i,hi,hx⟩:=mem_drop_get hx
    exact pw_get h.pw hy hx (by omega)
  ·have e:hiP l tq=l.length:=by unfold hiP;omega
   exact⟨65537,ht,fun x hx=>(hkm x hx).t1,fun x hx=>by rw[e] at hx;simp at hx,Int.le_refl _⟩
 obtain⟨hc1,hc2⟩:=changedP_ok (l:=(l.drop (loP l from_)).take (hiP l tq - loP l from_)) (m:=64) (m':=m') (lo:=lo) (hi:=hi) hg hm hft h1 ht hloF hpm hkm hloM hiT hiM
 have hA:Upto m' (l.take (loP l from_)) lo:=⟨h.pw.sublist (List.take_sublist _ _),hloT,fun x hx=>wide x (List.mem_of_mem_take hx)⟩
 have hB:Upto m' (l.drop (hiP l tq)) 65537:=⟨h.pw.sublist (List.drop_sublist _ _),fun x hx=>(h.ok x (List.mem_of_mem_drop hx)).t1,fun x hx=>wide x (List.mem_of_mem_drop hx)⟩
 exact(hA.append hc1 hc2 (by omega)).append hB hiD hiK
theorem withP_keeps (x:PropE):KeepsP 64 65 (withP x):=by
 refine⟨fun ps hp=>?_,fun ps hs=>?_⟩
 ·unfold withP
  have h1:=congrArg List.length (List.takeWhile_append_dropWhile (p:=fun y:PropE=>decide (y.name<x.name)) (l:=ps))
  simp only[List.length_append] at h1
  simp only[List.length_append,List.length_cons]
  split
  ·rename_i y r hd
   rw[hd] at h1
   split<;>simp only[List.length_cons] at*<;> omega
  ·rename_i hd;rw[hd] at h1;simp only[List.length_nil] at *;omega
 ·have h1:=List.takeWhile_append_dropWhile (p:=fun y:PropE=>decide (y.name<x.name)) (l:=ps)
  have hA:∀ y ∈ ps.takeWhile (fun y=>decide (y.name<x.name)),y.name<x.name:=fun y hy=>by
   have:=List.all_takeWhile (l:=ps) (p:=fun y=>decide (y.name<x.name))
   rw[List.all_eq_true] at this
   simpa using this y hy
  unfold SortedP at hs ⊢
  rw[<-h1,List.map_append,List.pairwise_append] at hs
  obtain⟨s1,s2,s3⟩:=hs
  unfold withP
  have hD:∀ y r,ps.dropWhile (fun y=>decide (y.name<x.name))=y :: r->x.name<=y.name:=fun y r hd=>by
   have h0:(y :: r)≠[]:=by simp
   have:=List.head_dropWhile_not (fun y:PropE=>decide (y.name<x.name)) (l:=ps) (by rw[hd];simp)
   simp only[hd,List.head_cons] at this
   simpa using this
  generalize ps.dropWhile (fun y=>decide (y.name<x.name))=D at *
  generalize ps.takeWhile (fun y=>decide (y.name<x.name))=C at *
  have fin:∀ R:List PropE,(R.map PropE.name).Pairwise (·<·)->(∀ z ∈ R,x.name<z.name)->((C++x :: R).map PropE.name).Pairwise (·<·):=fun R hR hx=>by
   rw[List.map_append,List.pairwise_append]
   refine⟨s1,?_,fun a ha b hb=>?_⟩
   ·rw[List.map_cons,List.pairwise_cons]
    exact⟨fun b hb=>by obtain⟨z,hz,rfl⟩:=List.mem_map.1 hb;exact hx z hz,hR⟩
   ·obtain⟨y,hy,rfl⟩:=List.mem_map.1 ha
    obtain⟨z,hz,rfl⟩:=List.mem_map.1 hb
    have:=hA y hy
    rcases List.mem_cons.1 hz with rfl|hz
    ·exact this
    ·have:=hx z hz;omega
  cases D with
  | nil=>exact fin [] List.Pairwise.nil (by simp)
  | cons y r=>
    have hy:=hD y r rfl
    rw[List.map_cons,List.pairwise_cons] at s2
    have hr:∀ z ∈ r,y.name<z.name:=fun z hz=>s2.1 _ (List.mem_map_of_mem hz)
    dsimp only
    split
    ·rename_i he
     exact fin r s2.2 (fun z hz=>by have:=hr z hz;omega)
    ·rename_i he
     exact fin (y :: r) (by rw[List.map_cons,List.pairwise_cons];exact s2) (fun z hz=>by
      rcases List.mem_cons.1 hz with rfl|hz
      ·omega
      ·have:=hr z hz;omega)
theorem withoutP_keeps (nm:Int):KeepsP 64 64 (withoutP nm):=by
 refine⟨fun ps hp=>Nat.le_trans (List.length_filter_le _ _) hp,fun ps hs=>?_⟩
 unfold SortedP withoutP at *
 exact hs.sublist (List.filter_sublist.map _)
theorem Upto.pcs {l:List Pc} {e:Int} (h:Upto 64 l e):PcsOk l:=⟨h.pw,h.ok⟩
theorem PcsOk.upto {l:List Pc} (h:PcsOk l):Upto 64 l 65537:=⟨h.pw,fun x hx=>(h.ok x hx).t1,h.ok⟩
theorem checkP_may {f t nm:Int} (h:checkP f t nm=0):1<=f/\f<=t/\t<=65537/\0<=nm:=by
 unfold checkP at h
 split at h
 ·omega
 ·rename_i h1
  split at h
  ·omega
  ·unfold mayP at h1;simp at h1;omega
theorem putP_ok {x:PropE} (h:PcsOk l):PcsOk (putP l f t x):=by
 unfold putP
 split
 ·rename_i he
  unfold putE at he
  split at he
  ·contradiction
  ·rename_i hc
   have hc':checkP f t x.name=0:=by simpa using hc
   obtain⟨a1,a2,a3,a4⟩:=checkP_may hc'
   split at he
   ·omega
   ·rename_i hf
    have hU:=changeP_ok h (withP_keeps x) (by omega) a2 a1 a3
    refine⟨hU.pw,fun y hy=>?_⟩
    have:=hU.ok y hy
    refine⟨this.f1,this.ft,this.t1,this.ne,?_,this.so⟩
    unfold fullP at hf
    simp only[Bool.or_eq_true,List.any_eq_true,decide_eq_true_eq,not_or,not_exists,not_and] at hf
    have:=hf.2 y hy
    unfold maxProps at this
    omega
 ·exact h
theorem takePP_ok {nm:Int} (h:PcsOk l):PcsOk (takePP l f t nm):=by
 unfold takePP
 split
 ·rename_i hc
  obtain⟨a1,a2,a3,a4⟩:=checkP_may hc
  exact(changeP_ok h (withoutP_keeps nm) (by omega) a2 a1 a3).pcs
 ·exact h
end
end Go.Proofs.YtkpoodjhjfmfjaaGreatDoor
namespace Go.Proofs.YtkpoodjhjfmfjaaGreatDoor
open Go.RowKit
open Ovs (PropE encP eltP SortedP)
section
variable {l : List Pc} {a n f t : Int}
def insC1 (a n c:Int):Int:=if c<=a then c else c+n
theorem insStep_ok {o:List Pc} {c:Int} {p:Pc} (hn:0<=n) (ha:1<=a) (h:Upto 64 o (insC1 a n c)) (hp:PcK 64 p) (hc:c<=p.f) (hb:a<p.t->p.t+n<=65537):Upto 64 (insStep a n o p) (insC1 a n p.t):=by
 obtain⟨p1,p2,p3,p4,p5,p6⟩:=hp
 unfold insC1 at *
 unfold insStep
 dsimp only
 have e1:Upto 64 (addP o p.f (min p.t a) p.ps) (max (if c<=a then c else c+n) (min p.t a)):=addP_upto h (fun _ _=>by split<;>omega) (by omega) p5 p6
 split
 ·rename_i h1
  have:=hb h1
  rw[if_neg (by omega)]
  split at e1
  ·exact addP_upto e1 (fun _ _=>by omega) (by omega) p5 p6
  ·exact addP_upto e1 (fun _ _=>by omega) (by omega) p5 p6
 ·rename_i h1
  rw[if_pos (by omega)]
  exact e1.mono (by split<;>omega)
theorem insFold_ok (hn:0<=n) (ha:1<=a):∀(l o:List Pc) (c:Int),Upto 64 o (insC1 a n c)->l.Pairwise (fun x y=>x.t<=y.f)->(∀ x ∈ l,PcK 64 x)->(∀ x ∈ l,c<=x.f)->(∀ x ∈ l,a<x.t->x.t+n<=65537)->PcsOk (l.foldl (insStep a n) o)
 | [],o,c,h,_,_,_,_=>h.pcs
 | p :: l,o,c,h,hp,hk,hc,hb=>by
   obtain⟨hp1,hp2⟩:=List.pairwise_cons.1 hp
   exact insFold_ok hn ha l _ p.t (insStep_ok hn ha h (hk p (by simp)) (hc p (by simp)) (hb p (by simp))) hp2 (fun x hx=>hk x (by simp[hx])) (fun x hx=>hp1 x hx) (fun x hx=>hb x (by simp[hx]))
theorem last_most {l:List Pc} {k:Pc} (h:PcsOk l) (hk:l.getLast?=some k):∀ x ∈ l,x.t<=k.t:=by
 have hs:=getLast_split hk
 intro x hx
 have hpw:=h.pw
 rw[hs] at hpw hx
 rcases List.mem_append.1 hx with hx|hx
 ·have:=(List.pairwise_append.1 hpw).2.2 x hx k (by simp)
  have:=(h.ok k (List.mem_of_getLast? hk)).ft
  omega
 ·obtain rfl:x=k:=by simpa using hx
  omega
theorem insFit_le (h:PcsOk l) (hf:insFit l a n=true):∀ x ∈ l,a<x.t->x.t+n<=65537:=fun x hx hxa=>by
 unfold insFit at hf
 split at hf
 ·rename_i k hk
  have:=last_most h hk x hx
  simp only[Bool.not_eq_true',Bool.and_eq_false_iff,decide_eq_false_iff_not] at hf
  omega
 ·rename_i hk
  have:l=[]:=by simpa using hk
  subst this;simp at hx
theorem insertedP_ok (h:PcsOk l):PcsOk (insertedP l a n):=by
 unfold insertedP
 split
 ·rename_i he
  unfold insertedE at he
  split at he
  ·omega
  ·split at he
   ·omega
   ·split at he
    ·rename_i h1 h2 h3
     exact insFold_ok (by omega) (by omega) l [] 0 (Upto.nil _ _) h.pw h.ok (fun x hx=>by have:=(h.ok x hx).f1;omega) (insFit_le h h3)
    ·omega
 ·exact h
def delC1 (f t c:Int):Int:=if c<=f then c else if c<=t then f else c -(t - f)
theorem delStep_ok {o:List Pc} {c:Int} {p:Pc} (hf:1<=f) (hft:f<=t) (h:Upto 64 o (delC1 f t c)) (hp:PcK 64 p) (hc:c<=p.f):Upto 64 (delStep f t o p) (delC1 f t p.t):=by
 obtain⟨p1,p2,p3,p4,p5,p6⟩:=hp
 have hm:delC1 f t c<=delC1 f t p.t:=by unfold delC1;(repeat' split)<;>omega
 have e1:Upto 64 (addP o p.f (min p.t f) p.ps) (max (delC1 f t c) (min p.t f)):=addP_upto h (fun _ _=>by unfold delC1;(repeat' split)<;>omega) (by omega) p5 p6
 unfold delStep
 refine addP_upto e1 (fun _ _=>?_) ?_ p5 p6
 ·unfold delC1;(repeat' split)<;>omega
 ·unfold delC1;(repeat' split)<;>omega
theorem delFold_ok (hf:1<=f) (hft:f<=t):∀(l o:List Pc) (c:Int),Upto 64 o (delC1 f t c)->l.Pairwise (fun x y=>x.t<=y.f)->(∀ x ∈ l,PcK 64 x)->(∀ x ∈ l,c<=x.f)->PcsOk (l.foldl (delStep f t) o)
 | [],o,c,h,_,_,_=>h.pcs
 | p :: l,o,c,h,hp,hk,hc=>by
   obtain⟨hp1,hp2⟩:=List.pairwise_cons.1 hp
   exact delFold_ok hf hft l _ p.t (delStep_ok hf hft h (hk p (by simp)) (hc p (by simp))) hp2 (fun x hx=>hk x (by simp[hx])) (fun x hx=>hp1 x hx)
theorem deletedP_ok (h:PcsOk l):PcsOk (deletedP l f t):=by
 unfold deletedP
 split
 ·rename_i hm
  unfold mayP at hm
  simp only[Bool.and_eq_true,decide_eq_true_eq] at hm
  exact delFold_ok (by omega) (by omega) l [] 0 (Upto.nil _ _) h.pw h.ok (fun x hx=>by have:=(h.ok x hx).f1;omega)
 ·exact h
theorem Upto.count:∀ {l:List Pc} {m:Nat} {e:Int} {lo:Int},Upto m l e->Low l lo->(l.length:Int)<=max 0 (e - lo)
 | [],m,e,lo,_,_=>by rw[List.length_nil];omega
 | p :: l,m,e,lo,h,hl=>by
   obtain⟨hp1,hp2⟩:=List.pairwise_cons.1 h.pw
   have h1:=(⟨hp2,fun x hx=>h.le x (by simp[hx]),fun x hx=>h.ok x (by simp[hx])⟩:Upto m l e)
   have h2:Low l p.t:=fun x hx=>hp1 x hx
   have h3:=Upto.count h1 h2
   have h4:=h.le p (by simp)
   have h5:=(h.ok p (by simp)).ft
   have h6:=hl p (by simp)
   rw[List.length_cons]
   omega
theorem PcsOk.len (h:PcsOk l):l.length<=65536:=by
 have:=h.upto.count (lo:=1) (fun x hx=>(h.ok x hx).f1)
 omega
theorem Upto.len {m:Nat} (h:Upto m l 65537):l.length<=65536:=by
 have:=h.count (lo:=1) (fun x hx=>(h.ok x hx).f1)
 omega
end
end Go.Proofs.YtkpoodjhjfmfjaaGreatDoor
namespace Go.Proofs.YtkpoodjhjfmfjaaGreatDoor
open Go.RowKit
open Ovs (PropE encP eltP SortedP)
theorem eltPc:Elt encPc 187 190 3 40 (.agg #[.int .i64 0,.int .i64 0,.slice none 0 0]):=
 ⟨Tryz.underlying187,by kernel_rfl,rfl,by omega,fun _=>rfl,fun x u hu=>by simp at hu;rcases hu with rfl|rfl|rfl<;>rfl⟩
theorem neqPr (a b:PropE) (w:World):(binOp .neq 140 (.agg #[.int .i64 a.name,.int .i64 a.kind,.int .i64 a.n]) (.agg #[.int .i64 b.name,.int .i64 b.kind,.int .i64 b.n])).run Tryz.prog w=.ok (.bool (!decide (a=b))) w:=by
 have u3:=Tryz.underlying3
 have u4:=Tryz.underlying31
 have hS:Tryz.prog.underlying 140=some (.struct (Tryz.prog.fieldsOf 140)):=by kernel_rfl
 have hp:Tryz.prog.stoodInHeld 140=false:=by kernel_rfl
 have hp2:Tryz.prog.stoodInHeld 31=false:=by kernel_rfl
 have he:(!decide (a=b))=!(a.name == b.name && (a.kind == b.kind && a.n == b.n)):=by
  refine congrArg Bool.not ?_
  by_cases h:a=b
  ·subst h;simp
  ·have:¬(a.name=b.name/\a.kind=b.kind/\a.n=b.n):=fun⟨h1,h2,h3⟩=>h (by cases a;cases b;dsimp only at h1 h2 h3;subst h1 h2 h3;rfl)
   rw[decide_eq_false h]
   symm
   rw[Bool.eq_false_iff]
   intro hb
   rw[Bool.and_eq_true,Bool.and_eq_true,beq_iff_eq,beq_iff_eq,beq_iff_eq] at hb
   exact this hb
 rw[he,run_neq_struct,show(10000:Nat)=9999+1 from rfl,run_equalIn_agg w 9999 140 _ _ hS hp]
 simp only[Program.fieldsOf,Tryz.underlying140]
 by_cases h1:a.name=b.name
 ·by_cases h2:a.kind=b.kind
  ·by_cases h3:a.n=b.n
   ·simp only[h1,h2,h3];go_simp
   ·have d3:(a.n == b.n)=false:=by simpa using h3
    simp only[h1,h2];go_simp
  ·have d2:(a.kind == b.kind)=false:=by simpa using h2
   simp only[h1];go_simp
 ·have d1:(a.name == b.name)=false:=by simpa using h1
  go_simp
section
variable {w w' : World} {A A' : Option Addr} {xs ys : List PropE}
set_option maxRecDepth 100000 in
set_option maxHeartbeats 1000000 in
theorem eqPs (h:RSl encP w A xs) (h':RSl encP w A' ys) (c c':Nat) (hl:xs.length<=1000000) (hl':ys.length<=1000000) :
  Calls Tryz.prog 209 #[.slice A xs.length c,.slice A' ys.length c'] w fun e w'=>e=.returned (.bool (decide (xs=ys)))/\Below w.heap.size w w':=by
 by_cases hle:xs.length=ys.length
 ·have hne:((xs.length:Int) !=(ys.length:Int))=false:=by simp;omega
  have hN:((xs.length:Int)=(ys.length:Int))=True:=eq_true (by omega)
  have H:=qH h
  have H':=qH h'
  have HL:=qH hle
  clear h h' hle
  go_enter Tryz.func209,Tryz.ntmps209
  go_wp2_with fail
  clear hne hN
  go_loopw [13] (fun vi wr=>∃ k:Nat,k<=xs.length/\vi=.int .i64 k/\(∀ j,j<k->xs[j]?=ys[j]?)/\Below w.heap.size w wr) (fun vi _=>xs.length -(intOf vi).toNat)
  case atStart=>exact⟨0,by omega,rfl,fun j hj=>by omega,Below.refl _ _⟩
  case round=>
   obtain⟨k,hk,rfl,hall,hbel⟩:=hrel
   have HA:=qH hall
   have HB:=qH hbel
   clear hall hbel
   by_cases hlt:k<xs.length
   ·obtain⟨x,hx⟩:∃ x,xs[k]?=some x:=⟨_,List.getElem?_eq_getElem hlt⟩
    obtain⟨y,hy⟩:∃ y,ys[k]?=some y:=⟨_,List.getElem?_eq_getElem (by have:=HL.out;omega)⟩
    obtain⟨g,o,rfl,hg,hc⟩:=(H.out.up HB.out).at_ eltP hx
    obtain⟨g',o',rfl,hg',hc'⟩:=(H'.out.up HB.out).at_ eltP hy
    have c0:=hc 0 _ rfl
    have c1:=hc 1 _ rfl
    have c2:=hc 2 _ rfl
    have d0:=hc' 0 _ rfl
    have d1:=hc' 1 _ rfl
    have d2:=hc' 2 _ rfl
    simp only[<-Nat.add_assoc,Nat.add_zero] at c0 c1 c2 d0 d1 d2
    have hn:=neqPr x y
    have hg:Tryz.prog.eqGuardType Tryz.prog.depth 140=false:=by kernel_rfl
    have hlt':(k:Int)<xs.length:=by omega
    have hlt2:(k:Int)<ys.length:=by have:=HL.out;omega
    have HX:=qH hx
    have HY:=qH hy
    clear hc hc' hx hy
    by_cases he:x=y
    ·have hd:decide (x=y)=true:=decide_eq_true he
     rw[hd] at hn
     have HE:=qH he
     clear he hd
     go_wp2_with fail
     go_quiet (fail)
     go_wp2_with fail
     go_roundw
     case rel=>
      refine⟨k+1,by omega,by go_num,fun j hj=>?_,⟨HB.out.os,HB.out.tape,HB.out.output,HB.out.size,HB.out.block⟩⟩
      rcases Nat.lt_or_ge j k with h1|h1
      ·exact HA.out j h1
      ·obtain rfl:j=k:=by omega
       rw[HX.out,HY.out,HE.out]
     case measure=>simp[intOf];omega
    ·have hd:decide (x=y)=false:=decide_eq_false he
     rw[hd] at hn
     have HE:=qH he
     clear he hd
     go_wp2_with fail
     go_quiet (fail)
     go_wp2_with fail
     go_ret
     refine⟨ret_bool ?_,⟨HB.out.os,HB.out.tape,HB.out.output,HB.out.size,HB.out.block⟩⟩
     symm
     rw[decide_eq_false_iff_not]
     intro e;subst e
     have h1:=HX.out;have h2:=HY.out
     rw[h1] at h2;cases h2;exact HE.out rfl
   ·have hkn:k=xs.length:=by omega
    subst hkn
    go_wp2_with fail
    go_ret
    refine⟨ret_bool ?_,HB.out⟩
    symm
    rw[decide_eq_true_eq]
    apply List.ext_getElem?
    intro j
    rcases Nat.lt_or_ge j xs.length with h1|h1
    ·exact HA.out j h1
    ·rw[List.getElem?_eq_none h1,List.getElem?_eq_none (by have:=HL.out;omega)]
 ·have hne:((xs.length:Int) !=(ys.length:Int))=true:=by simp;omega
  have hN:((xs.length:Int)=(ys.length:Int))=False:=eq_false (by omega)
  have HL:=qH hle
  clear h h' hle
  go_enter Tryz.func209,Tryz.ntmps209
  go_wp2_with fail
  go_ret
  exact⟨ret_bool (by symm;rw[decide_eq_false_iff_not];intro e;exact HL.out (by rw[e])),Below.refl _ _⟩
end
end Go.Proofs.YtkpoodjhjfmfjaaGreatDoor
namespace Go.Proofs.YtkpoodjhjfmfjaaGreatDoor
open Go.RowKit
open Ovs (PropE encP eltP SortedP)
def AddPost (w:World) (B:Nat) (v:Value) (L:List PcE) (f t:Int) (A:Option Addr) (c:Nat) (ps:List PropE) (e:Ending) (w':World):Prop:=
 ∃ v' L',e=.returned v'/\ROwn encPc 190 3 B w' v' L'/\L'.map PcE.dat=addP (L.map PcE.dat) f t ps/\Only (fun k=>v.ownBlock=some k) w w'/\(v'.ownBlock=v.ownBlock\/∃ g,v'.ownBlock=some g/\w.heap.size<=g) /\
   ∀ x ∈ L',(∃ y ∈ L,x.A=y.A/\x.c=y.c/\x.ps=y.ps)\/(x.A=A/\x.c=c/\x.ps=ps)
section
variable {w w' : World} {A Av : Option Addr} {ps : List PropE} {B : Nat} {v : Value} {L : List PcE} {f t : Int}
theorem AddPost.same {c:Nat} (hv:ROwn encPc 190 3 B w v L) (h:t<=f\/ps=[]):AddPost w B v L f t A c ps (.returned v) w:=
 ⟨v,L,rfl,hv,(addP_skip h).symm,Only.refl _ _,.inl rfl,fun x hx=>.inl ⟨x,hx,rfl,rfl,rfl⟩⟩
theorem AddPost.app {v':Value} {c:Nat} (hw:ROwn encPc 190 3 B w' v' (L++[⟨f,t,A,c,ps⟩])) (ho:Only (fun k=>v.ownBlock=some k) w w') (hb:v'.ownBlock=v.ownBlock\/∃ g,v'.ownBlock=some g/\w.heap.size<=g)
  (h:¬(t<=f\/ps=[])) (hl:∀ k,(L.map PcE.dat).getLast?=some k->¬(k.t=f/\k.ps=ps)):AddPost w B v L f t A c ps (.returned v') w':=by
 refine⟨v',_,rfl,hw,?_,ho,hb,fun x hx=>?_⟩
 ·unfold addP
  rw[if_neg h,List.map_append]
  split
  ·rename_i k hk
   rw[if_neg (hl k hk)];rfl
  ·rename_i hk
   have:L=[]:=by simpa using hk
   subst this;rfl
 ·rcases List.mem_append.1 hx with hx|hx
  ·exact .inl ⟨x,hx,rfl,rfl,rfl⟩
  ·obtain rfl:x=⟨f,t,A,c,ps⟩:=by simpa using hx
   exact .inr ⟨rfl,rfl,rfl⟩
set_option maxRecDepth 100000 in
set_option maxHeartbeats 2000000 in
theorem padd (hv:ROwn encPc 190 3 B w v L) (hB:B<=w.heap.size) (hl:L.length<=1000000) (hp:∀ x ∈ L,RSl encP w x.A x.ps/\x.ps.length<=1000) (hps:RSl encP w A ps) (hpl:ps.length<=1000) (c:Nat) (f t:Int) :
  Calls Tryz.prog 226 #[v,.int .i64 f,.int .i64 t,.slice A ps.length c] w (AddPost w B v L f t A c ps):=by
 have hHV:=hv
 obtain⟨Av,cv,rfl,hvc,hvm,hRv⟩:=hv.shape eltPc
 have HV:=qH hHV
 have HP:=qH hp
 clear hHV
 have ap:=append_elem eltPc HV.out hB ⟨f,t,A,c,ps⟩ (by omega) (by omega)
 by_cases h1:t<=f
 ·have d0:decide (t<=f)=true:=decide_eq_true h1
  have p0:(t<=f)=True:=eq_true h1
  have H1:=qH h1
  clear h1 hv hp hps ap
  go_enter Tryz.func226,Tryz.ntmps226
  go_wp2_with fail
  go_ret
  exact AddPost.same HV.out (.inl H1.out)
 have d0:decide (t<=f)=false:=decide_eq_false h1
 have p0:(t<=f)=False:=eq_false h1
 by_cases h2:ps=[]
 ·subst h2
  clear h1 hv hp hps ap
  go_enter Tryz.func226,Tryz.ntmps226
  go_wp2_with fail
  go_ret
  exact AddPost.same HV.out (.inr rfl)
 have hn0:ps.length≠0:=fun e=>h2 (List.eq_nil_of_length_eq_zero e)
 have d1:((ps.length:Int) == 0)=false:=by simpa using h2
 have p1:(ps=[])=False:=eq_false h2
 have HN:=qH (show ¬(t<=f\/ps=[]) from fun e=>e.elim h1 h2)
 obtain⟨v2,w2,hrun,hown,hbel,honly,hblk⟩:=ap
 have HR:=qH hrun
 have HO:=qH (⟨hown,honly,hblk⟩:_/\_/\_)
 clear h1 h2 hrun hown hbel honly hblk
 rcases List.eq_nil_or_concat L with rfl|⟨L0,k,hL⟩
 ·have s1:IntKind.i64.wrap (((([]:List PcE).length:Nat):Int) - 1)=-1:=by rfl
  clear hv hp hps
  go_enter Tryz.func226,Tryz.ntmps226
  go_wp2_with (at_builtin;refine wpList_app_run rfl _ _ _ rfl rfl rfl HR.out ?_)
  go_ret
  exact AddPost.app HO.out.1 HO.out.2.1 HO.out.2.2 HN.out (fun k hk=>by simp at hk)
 ·rw[List.concat_eq_append] at hL
  subst hL
  obtain⟨g,cap',e,hcl,hcm,hBg,hgl,hfz,hcell⟩:=HV.out.lies eltPc (by simp)
  cases e
  obtain⟨kf,kt,kA,kc,kps⟩:=k
  have hk:(L0++[(⟨kf,kt,kA,kc,kps⟩:PcE)])[L0.length]?=some ⟨kf,kt,kA,kc,kps⟩:=by simp
  have c0:=hcell L0.length _ 0 _ hk rfl
  have c1:=hcell L0.length _ 1 _ hk rfl
  have c2:=hcell L0.length _ 2 _ hk rfl
  have f1:=hfz (L0.length*3+1) (by simp;omega)
  simp only[Nat.add_zero] at c0
  obtain⟨n,hn⟩:∃ n,n=(L0++[(⟨kf,kt,kA,kc,kps⟩:PcE)]).length:=⟨_,rfl⟩
  obtain⟨m,hm⟩:∃ m,m=L0.length:=⟨_,rfl⟩
  have hnm:n=m+1:=by rw[hn,hm];simp
  rw[<-hm] at c0 c1 c2 f1
  have hkp:=hp ⟨kf,kt,kA,kc,kps⟩ (by simp)
  have hE:=eqPs (c:=kc) (c':=c) hkp.1 hps (by have:=hkp.2;dsimp only at this ⊢;omega) (by omega)
  dsimp only at hE
  have HE:=qH hE
  rw[<-hn]
  rw[<-hn] at HR
  have s1:IntKind.i64.wrap ((n:Int) - 1)=(m:Int):=by rw[IntWalk.i64_in _ (by omega)];omega
  have lt1:(m:Int)<(n:Int):=by omega
  have g1:((0:Int)<=(m:Int))=True:=eq_true (by omega)
  have g2:decide ((0:Int)<=(m:Int))=true:=decide_eq_true (by omega)
  have HM:=qH (⟨hn,hm,hk⟩:_/\_/\_)
  have hcm':=hcm
  unfold maxLen at hcm'
  clear hv hp hps hcell hfz hn hm hk hkp hE hnm hcl hcm
  by_cases hkt:kt=f
  ·have d2:(kt == f)=true:=by simpa using hkt
   by_cases hkk:kps=ps
   ·have d3:decide (kps=ps)=true:=decide_eq_true hkk
    rw[d3] at HE
    have HK:=qH (⟨hkt,hkk⟩:_/\_)
    clear hkt hkk d3
    go_enter Tryz.func226,Tryz.ntmps226
    go_wp2_with fail
    refine HE.out.mono ?_
    rintro r w3 ⟨rfl,hb3⟩
    have c1':=(hb3.cell (p:=⟨g,m*3+1,none⟩) hgl).trans c1
    have f1':=(hb3.frozen (p:=⟨g,m*3+1,none⟩) hgl).trans f1
    have B3:=qH hb3
    clear hb3 c0 c1 c2 f1
    go_wp2_with fail
    go_ret
    obtain⟨e1,e2,hk⟩:=HM.out
    subst e1 e2
    obtain⟨rfl,rfl⟩:=HK.out
    have hput:=(HV.out.up B3.out).put eltPc (i:=L0.length) (j:=1) (y:=⟨kf,t,kA,kc,kps⟩) (u:=.int .i64 t) hk (by omega) rfl
    have hset:(L0++[(⟨kf,kt,kA,kc,kps⟩:PcE)]).set L0.length ⟨kf,t,kA,kc,kps⟩=L0++[⟨kf,t,kA,kc,kps⟩]:=by simp
    rw[hset] at hput
    have hln:(L0++[(⟨kf,kt,kA,kc,kps⟩:PcE)]).length=(L0++[(⟨kf,t,kA,kc,kps⟩:PcE)]).length:=by simp
    refine⟨.slice (some ⟨g,0,none⟩) (L0++[(⟨kf,kt,kA,kc,kps⟩:PcE)]).length cv,L0++[⟨kf,t,kA,kc,kps⟩],rfl,hput,?_,?_,.inl rfl,fun x hx=>?_⟩
    ·unfold addP
     rw[if_neg HN.out,List.map_append,List.map_append]
     simp[PcE.dat]
    ·exact(Only.of_below (S:=fun k=>(Value.slice (some ⟨g,0,none⟩) (L0++[(⟨kf,kt,kA,kc,kps⟩:PcE)]).length cv).ownBlock=some k) B3.out).setCell (p:=⟨g,L0.length*3+1,none⟩) rfl _
    ·rcases List.mem_append.1 hx with hx|hx
     ·exact .inl ⟨x,List.mem_append_left _ hx,rfl,rfl,rfl⟩
     ·obtain rfl:x=⟨kf,t,kA,kc,kps⟩:=by simpa using hx
      exact .inl ⟨⟨kf,kt,kA,kc,kps⟩,by simp,rfl,rfl,rfl⟩
   ·have d3:decide (kps=ps)=false:=decide_eq_false hkk
    rw[d3] at HE
    have HK:=qH hkk
    clear hkt hkk d3
    go_enter Tryz.func226,Tryz.ntmps226
    go_wp2_with fail
    refine HE.out.mono ?_
    rintro r w3 ⟨rfl,hb3⟩
    obtain⟨v4,w4,hrun,hown,hbel,honly,hblk⟩:=append_elem eltPc (HV.out.up hb3) (Nat.le_trans hB hb3.size) ⟨f,t,A,c,ps⟩ (by omega) (by omega)
    rw[<-HM.out.1] at hrun honly hblk
    have HR4:=qH hrun
    have HO4:=qH (⟨hown,(Only.of_below hb3).trans honly,(hblk.imp id (fun⟨g,h1,h2⟩=>⟨g,h1,Nat.le_trans hb3.size h2⟩):v4.ownBlock=_\/∃ g,v4.ownBlock=some g/\w.heap.size<=g)⟩:_/\_/\_)
    clear hb3 c0 c1 c2 f1 hrun hown hbel honly hblk HR HO
    go_wp2_with (at_builtin;refine wpList_app_run rfl _ _ _ rfl rfl rfl HR4.out ?_)
    go_ret
    have e:=HM.out.1
    subst e
    exact AddPost.app HO4.out.1 HO4.out.2.1 HO4.out.2.2 HN.out (fun k hk=>by simp at hk;subst hk;exact fun e=>HK.out e.2)
  ·have d2:(kt == f)=false:=by simpa using hkt
   have HK:=qH hkt
   have p2:(kt=f)=False:=eq_false hkt
   clear hkt
   go_enter Tryz.func226,Tryz.ntmps226
   go_wp2_with (at_builtin;refine wpList_app_run rfl _ _ _ rfl rfl rfl HR.out ?_)
   go_ret
   have e:=HM.out.1
   subst e
   exact AddPost.app HO.out.1 HO.out.2.1 HO.out.2.2 HN.out (fun k hk=>by simp at hk;subst hk;exact fun e=>HK.out e.1)
end
end Go.Proofs.YtkpoodjhjfmfjaaGreatDoor
namespace Go.Proofs.YtkpoodjhjfmfjaaGreatDoor
open Go.RowKit
open Ovs (PropE encP eltP SortedP)
section
variable {w w' : World} {A : Option Addr} {L : List PcE}
set_option maxHeartbeats 400000 in
theorem firstC (x:PcE) (a:Int) (w:World):Calls Tryz.prog 272 #[.agg #[.int .i64 x.f,.int .i64 x.t,.slice x.A x.ps.length x.c],.int .i64 a] w fun e w'=>e=.returned (.int .i64 (if x.t<=a then -1 else 1))/\Below w.heap.size w w':=by
 by_cases h:x.t<=a
 ·have d0:decide (x.t<=a)=true:=decide_eq_true h
  rw[if_pos h]
  go_enter Tryz.func272,Tryz.ntmps272
  go_wp2_with fail
  go_ret
  exact⟨rfl,below1 _ _⟩
 ·have d0:decide (x.t<=a)=false:=decide_eq_false h
  rw[if_neg h]
  go_enter Tryz.func272,Tryz.ntmps272
  go_wp2_with fail
  go_ret
  exact⟨rfl,below1 _ _⟩
theorem dat_get {i:Nat} {x:PcE} (h:L[i]?=some x):(L.map PcE.dat)[i]?=some x.dat:=by rw[List.getElem?_map,h];rfl
theorem ends_lt (hs:PcsOk (L.map PcE.dat)) {i j:Nat} {x y:PcE} (hi:L[i]?=some x) (hj:L[j]?=some y) (hij:i<j):x.t<y.t:=by
 have h1:=pw_get hs.pw (dat_get hi) (dat_get hj) hij
 have h2:=(hs.ok y.dat (List.mem_of_getElem? (dat_get hj))).ft
 have e1:x.dat.t=x.t:=rfl
 have e2:y.dat.f=y.f:=rfl
 have e3:y.dat.t=y.t:=rfl
 omega
set_option maxRecDepth 100000 in
set_option maxHeartbeats 1000000 in
theorem bsearchPc (hs:PcsOk (L.map PcE.dat)) (h:RSl encPc w A L) (a:Int) (c:Nat) (hl:L.length<=1000000) :
  Calls Tryz.prog 271 #[.slice A L.length c,.int .i64 a,.func (.func 272) #[] #[]] w fun e w'=>e=.returned (.tuple #[.int .i64 (firstP (L.map PcE.dat) a),.bool false])/\Below w.heap.size w w':=by
 have HS:=qH hs
 have HH:=qH h
 clear hs h
 go_enter Tryz.func271,Tryz.ntmps271
 go_wp2_with fail
 go_loopw [9,10] (fun vi vj wr=>∃ i j:Nat,i<=j/\j<=L.length/\vi=.int .i64 i/\vj=.int .i64 j/\(∀ t p,t<i->L[t]?=some p->p.t<=a)/\(∀ t p,j<=t->L[t]?=some p->a<p.t)/\Below w.heap.size w wr) (fun vi vj _=>(intOf vj).toNat -(intOf vi).toNat)
 case atStart=>exact⟨0,L.length,by omega,by omega,rfl,rfl,fun t p ht=>by omega,(fun t p ht hp=>by rw[List.getElem?_eq_none (by omega)] at hp;cases hp),Below.refl _ _⟩
 case round=>
  obtain⟨i,j,hij,hj,rfl,rfl,h1,h2,hbel⟩:=hrel
  have H1:=qH h1
  have H2:=qH h2
  have HB:=qH hbel
  clear h1 h2 hbel
  by_cases hlt:i<j
  ·have hlt':(i:Int)<j:=by omega
   have d0:decide ((i:Int)<j)=true:=decide_eq_true hlt'
   have hm1:i<=(i+j) / 2:=by omega
   have hm2:(i+j) / 2<j:=by omega
   obtain⟨⟨pf,pt,pA,pc,pp⟩,hx⟩:∃ x,L[(i+j) / 2]?=some x:=⟨_,List.getElem?_eq_getElem (by omega)⟩
   obtain⟨g,o,hAe,hg,hc⟩:=(HH.out.up HB.out).at_ eltPc hx
   have e0:=hc 0 _ rfl
   have e1:=hc 1 _ rfl
   have e2:=hc 2 _ rfl
   simp only[<-Nat.add_assoc,Nat.add_zero] at e0 e1 e2
   have HX:=qH hx
   have hmc:(((i+j) / 2:Nat):Int)<L.length:=by omega
   subst hAe
   clear hc hx
   have HC:=qH (firstC ⟨pf,pt,pA,pc,pp⟩ a wr)
   by_cases hpn:pt<=a
   ·rw[if_pos hpn] at HC
    go_wp2_with fail
    refine HC.out.mono ?_
    rintro e w2 ⟨rfl,hb⟩
    have HB2:=qH (up2 HB.out hb)
    clear hb e0 e1 e2
    go_wp2_with fail
    go_roundw
    case rel=>
     refine⟨(i+j) / 2+1,j,by omega,by omega,by go_num,rfl,fun t p ht hp=>?_,H2.out,HB2.out⟩
     rcases Nat.lt_or_ge t ((i+j) / 2) with h3|h3
     ·have h4:=ends_lt HS.out hp HX.out h3;dsimp only at h4;omega
     ·obtain rfl:t=(i+j) / 2:=by omega
      rw[HX.out] at hp;cases hp;exact hpn
    case measure=>simp[intOf];omega
   ·rw[if_neg hpn] at HC
    have HN:=qH (show a<pt by omega)
    clear hpn
    go_wp2_with fail
    refine HC.out.mono ?_
    rintro e w2 ⟨rfl,hb⟩
    have HB2:=qH (up2 HB.out hb)
    clear hb e0 e1 e2
    go_wp2_with fail
    go_roundw
    case rel=>
     refine⟨i,(i+j) / 2,by omega,by omega,rfl,by go_num,H1.out,fun t p ht hp=>?_,HB2.out⟩
     rcases Nat.lt_or_ge ((i+j) / 2) t with h3|h3
     ·have h4:=ends_lt HS.out HX.out hp h3;have h5:=HN.out;dsimp only at h4;omega
     ·obtain rfl:t=(i+j) / 2:=by omega
      rw[HX.out] at hp;cases hp;exact HN.out
    case measure=>simp[intOf];omega
  ·obtain rfl:i=j:=by omega
   have hix:firstP (L.map PcE.dat) a=i:=firstP_eq _ a i (by simpa using hj) (fun t p ht hp=>by
    rw[List.getElem?_map] at hp
    cases hq:L[t]? with
    | none=>rw[hq] at hp;cases hp
    | some q=>rw[hq] at hp;cases hp;exact H1.out t q ht hq) (fun p hp=>by
    rw[List.getElem?_map] at hp
    cases hq:L[i]? with
    | none=>rw[hq] at hp;cases hp
    | some q=>rw[hq] at hp;cases hp;have:=H2.out i q (Nat.le_refl _) hq;show ¬ q.t<=a;omega)
   by_cases hlt:i<L.length
   ·have d1:decide ((i:Int)<L.length)=true:=decide_eq_true (by omega)
    obtain⟨⟨pf,pt,pA,pc,pp⟩,hx⟩:∃ x,L[i]?=some x:=⟨_,List.getElem?_eq_getElem (by omega)⟩
    obtain⟨g,o,hAe,hg,hc⟩:=(HH.out.up HB.out).at_ eltPc hx
    have e0:=hc 0 _ rfl
    have e1:=hc 1 _ rfl
    have e2:=hc 2 _ rfl
    simp only[<-Nat.add_assoc,Nat.add_zero] at e0 e1 e2
    have hpn:¬ pt<=a:=by have:=H2.out i _ (Nat.le_refl _) hx;dsimp only at this;omega
    have HE:=qH hix
    have HC:=qH (firstC ⟨pf,pt,pA,pc,pp⟩ a wr)
    rw[if_neg hpn] at HC
    have hmc:(i:Int)<L.length:=by omega
    subst hAe
    clear hc hx hix hpn
    go_wp2_with fail
    refine HC.out.mono ?_
    rintro e w2 ⟨rfl,hb⟩
    have HB2:=qH (up2 HB.out hb)
    clear hb e0 e1 e2
    go_wp2_with fail
    go_ret2
    exact⟨by rw[HE.out];rfl,HB2.out⟩
   ·have d1:decide ((i:Int)<L.length)=false:=decide_eq_false (by omega)
    have HE:=qH hix
    clear hix
    go_wp2_with fail
    go_ret2
    exact⟨by rw[HE.out];rfl,HB.out⟩
set_option maxHeartbeats 400000 in
theorem pfirst (hs:PcsOk (L.map PcE.dat)) (h:RSl encPc w A L) (a:Int) (c:Nat) (hl:L.length<=1000000) :
  Calls Tryz.prog 235 #[.slice A L.length c,.int .i64 a] w fun e w'=>e=.returned (.int .i64 (firstP (L.map PcE.dat) a))/\Below w.heap.size w w':=by
 have HB:=qH (bsearchPc hs h a c hl)
 clear hs h
 go_enter Tryz.func235,Tryz.ntmps235
 go_wp2_with fail
 refine HB.out.mono ?_
 rintro e w1 ⟨rfl,hb⟩
 go_wp2_with fail
 go_ret
 exact⟨rfl,hb⟩
end
end Go.Proofs.YtkpoodjhjfmfjaaGreatDoor
namespace Go.Proofs.YtkpoodjhjfmfjaaGreatDoor
open Go.RowKit Go.ChangeMaps Go.WideShapes Go.MapKept
section
variable {α : Type}
def lookM (m:List (Int × α)) (k:Int):Option α:=(m.find? (fun p=>p.1 == k)).map (·.2)
def putM (m:List (Int × α)) (k:Int) (v:α):List (Int × α):=if (lookM m k).isSome then m.map (fun p=>if p.1 == k then (p.1,v) else p) else m++[(k,v)]
theorem lookM_none {m:List (Int × α)} {k:Int}:lookM m k=none ↔ ∀ p ∈ m,p.1≠k:=by
 simp[lookM,List.find?_eq_none]
theorem lookM_mem {m:List (Int × α)} {k:Int} {v:α} (h:lookM m k=some v):(k,v) ∈ m:=by
 unfold lookM at h
 cases hf:m.find? (fun p=>p.1 == k) with
 | none=>rw[hf] at h;cases h
 | some p=>
   rw[hf] at h
   have h1:=List.find?_some hf
   have h2:=List.mem_of_find?_eq_some hf
   simp at h h1
   subst h;subst h1
   exact h2
theorem lookM_of_mem {m:List (Int × α)} (hn:(m.map (·.1)).Nodup) {k:Int} {v:α} (h:(k,v) ∈ m):lookM m k=some v:=by
 induction m with
 | nil=>cases h
 | cons p r ih=>
   simp only[List.map_cons,List.nodup_cons] at hn
   rcases List.mem_cons.1 h with rfl|h
   ·simp[lookM]
   ·have hp:(p.1 == k)=false:=by
     rw[beq_eq_false_iff_ne];intro e;exact hn.1 (e▸List.mem_map.2 ⟨_,h,rfl⟩)
    have:=ih hn.2 h
    simp only[lookM,List.find?_cons,hp] at this ⊢
    exact this
theorem putM_keys_old {m:List (Int × α)} {k:Int} {v:α} (h:(lookM m k).isSome=true):(putM m k v).map (·.1)=m.map (·.1):=by
 unfold putM
 rw[if_pos h,List.map_map]
 apply List.map_congr_left
 intro p _
 simp only[Function.comp]
 split<;>rfl
theorem lookM_put (m:List (Int × α)) (k:Int) (v:α) (j:Int):lookM (putM m k v) j=if j=k then some v else lookM m j:=by
 unfold putM
 by_cases h:(lookM m k).isSome=true
 ·rw[if_pos h]
  unfold lookM
  rw[List.find?_map]
  have hc:((fun p:Int × α=>p.1 == j) ∘ fun p:Int × α=>if p.1 == k then (p.1,v) else p)=fun p=>p.1 == j:=by
   funext p;simp only[Function.comp];split<;>rfl
  rw[hc]
  by_cases e:j=k
  ·subst e
   rw[if_pos rfl]
   unfold lookM at h
   cases hf:m.find? (fun p=>p.1 == j) with
   | none=>rw[hf] at h;simp at h
   | some p=>have:=List.find?_some hf;simp at this;simp[this]
  ·rw[if_neg e]
   cases hf:m.find? (fun p=>p.1 == j) with
   | none=>rfl
   | some p=>
     have:=List.find?_some hf
     simp at this
     have hp:p.1≠k:=by rw[this];exact e
     simp[hp]
 ·rw[if_neg h]
  have h':=lookM_none.1 (by simpa using h)
  unfold lookM
  rw[List.find?_append]
  by_cases e:j=k
  ·subst e
   rw[if_pos rfl,List.find?_eq_none.2 (fun p hp=>by simpa using h' p hp)]
   simp
  ·rw[if_neg e]
   have hkj:k≠j:=fun h=>e h.symm
   have:List.find? (fun p:Int × α=>p.1 == j) [(k,v)]=none:=by simp[hkj]
   rw[this]
   cases m.find? (fun p=>p.1 == j)<;>rfl
theorem inj_of_nodup {β γ:Type} {f:β->γ}:∀ {l:List β},(l.map f).Nodup->∀ {x y:β},x ∈ l->y ∈ l->f x=f y->x=y
 | [],_,_,_,hx,_,_=>by cases hx
 | a :: r,hn,x,y,hx,hy,h=>by
   simp only[List.map_cons,List.nodup_cons] at hn
   rcases List.mem_cons.1 hx with ex|hx'
   ·rcases List.mem_cons.1 hy with ey|hy'
    ·rw[ex,ey]
    ·exact absurd (List.mem_map.2 ⟨y,hy',by rw[<-h,ex]⟩) hn.1
   ·rcases List.mem_cons.1 hy with ey|hy'
    ·exact absurd (List.mem_map.2 ⟨x,hx',by rw[h,ey]⟩) hn.1
    ·exact inj_of_nodup hn.2 hx' hy' h
theorem filter_same {β:Type} (p:Nat->Bool):∀ {l' l:List ((Int × β) × Nat)},l'.map (·.1.1)=l.map (·.1.1)->l'.map (·.2)=l.map (·.2)->(l.filter (fun x=>p x.2)).map (·.1.1)=(l'.filter (fun x=>p x.2)).map (·.1.1)
 | [],[],_,_=>rfl
 | [],_ :: _,h,_=>by simp at h
 | _ :: _,[],h,_=>by simp at h
 | x :: l',y :: l,h,h2=>by
   simp only[List.map_cons,List.cons.injEq] at h h2
   have ih:=filter_same p h.2 h2.2
   simp only[List.filter_cons,h2.1]
   split
   ·simp only[List.map_cons,h.1,ih]
   ·exact ih
def entOf (enc:α->Value) (x:(Int × α) × Nat):MapEntry:={ key:=.int .i64 x.1.1,val:=enc x.1.2,born:=x.2 }
structure IMap (w:World) (b:Nat) (enc:α->Value) (l:List ((Int × α) × Nat)) (clock:Nat):Prop where
 block:w.heap[b]?=some (.map (l.map (entOf enc)).toArray clock)
 keys:(l.map (·.1.1)).Nodup
 borns:(l.map (·.2)).Nodup
 old:∀ x ∈ l,x.2<clock
def IM (w:World) (b:Nat) (enc:α->Value) (m:List (Int × α)):Prop:=∃ l clock,IMap w b enc l clock/\l.map (·.1)=m
variable {w : World} {b : Nat} {enc : α → Value} {m : List (Int × α)} {l : List ((Int × α) × Nat)} {clock : Nat} {P : Program}
theorem IM.nodup (h:IM w b enc m):(m.map (·.1)).Nodup:=by
 obtain⟨l,clock,h,rfl⟩:=h
 rw[List.map_map];exact h.keys
theorem IM.lt (h:IM w b enc m):b<w.heap.size:=by
 obtain⟨l,clock,h,rfl⟩:=h
 exact(Array.getElem?_eq_some_iff.1 h.block).1
theorem IM.kept {w':World} (h:IM w b enc m) (hb:w'.heap[b]?=w.heap[b]?):IM w' b enc m:=by
 obtain⟨l,clock,h,rfl⟩:=h
 exact⟨l,clock,⟨hb.trans h.block,h.keys,h.borns,h.old⟩,rfl⟩
theorem IM.below {w':World} {B:Nat} (h:IM w b enc m) (hb:Below B w w') (hB:b<B):IM w' b enc m:=h.kept (hb.block b hB)
theorem IM.made (w:World) (enc:α->Value):IM (w.alloc (.map #[] 0)) w.heap.size enc []:=
 ⟨[],0,⟨(MapKept.heap_alloc w _).1,by simp,by simp,by simp⟩,rfl⟩
theorem keysInt (enc:α->Value) (l:List ((Int × α) × Nat)):∀ x ∈ l.map (entOf enc),MapKept.IsKey (.int .i64) x.key:=by
 intro x hx
 obtain⟨y,_,rfl⟩:=List.mem_map.1 hx
 rfl
theorem find_spec (enc:α->Value) (l:List ((Int × α) × Nat)) (k:Int) :
  (Instr.findNow (.int .i64) (.int .i64 k) (l.map (entOf enc)) 0=some none/\∀ x ∈ l,x.1.1≠k) \/
  ∃ j x,Instr.findNow (.int .i64) (.int .i64 k) (l.map (entOf enc)) 0=some (some (j,enc x.1.2))/\l[j]?=some x/\x.1.1=k:=by
 rcases MapKept.findNow_spec (d:=.int .i64) (k:=.int .i64 k) rfl (l.map (entOf enc)) 0 (keysInt enc l) with ⟨h1,h2⟩|⟨j,e,h1,h2,h3⟩
 ·exact .inl ⟨h1,fun x hx e=>h2 _ (List.mem_map.2 ⟨x,hx,rfl⟩) (by simp[entOf,e])⟩
 ·rw[List.getElem?_map] at h2
  cases hj:l[j]? with
  | none=>rw[hj] at h2;cases h2
  | some x=>
    rw[hj] at h2
    simp only[Option.map_some,Option.some.injEq] at h2
    subst h2
    exact .inr ⟨j,x,by simpa [entOf] using h1,hj,by simpa [entOf] using h3⟩
theorem look_of_none {k:Int} (h:∀ x ∈ l,x.1.1≠k):lookM (l.map (·.1)) k=none:=lookM_none.2 (fun p hp=>by obtain⟨x,hx,rfl⟩:=List.mem_map.1 hp;exact h x hx)
theorem look_of_some (hn:(l.map (·.1.1)).Nodup) {k:Int} {j:Nat} {x:(Int × α) × Nat} (hj:l[j]?=some x) (hx:x.1.1=k):lookM (l.map (·.1)) k=some x.1.2:=
 lookM_of_mem (by rw[List.map_map];exact hn) (List.mem_map.2 ⟨x,List.mem_of_getElem? hj,by rw[<-hx]⟩)
variable {t kt e : TypeId} (ht : P.underlying t = some (.map kt e)) (hk : P.underlying kt = some (.int .i64))
include ht hk
theorem IM.look_some (h:IM w b enc m) {k:Int} {v:α} (hv:lookM m k=some v) (c:Bool) :
  (Instr.lookup t (.map (some b)) (.int .i64 k) c).run P w=.ok (if c then .tuple #[enc v,.bool true] else enc v) w:=by
 obtain⟨l,clock,h,rfl⟩:=h
 rcases find_spec enc l k with ⟨h1,h2⟩|⟨j,x,h1,h2,h3⟩
 ·rw[look_of_none h2] at hv;cases hv
 ·rw[look_of_some h.keys h2 h3] at hv
  simp only[Option.some.injEq] at hv
  subst hv
  have hf:=MapKept.run_findKey (P:=P) (w:=w) hk h1
  have hc:=MapKept.run_checkKey (P:=P) (w:=w) (k:=.int .i64 k) hk rfl ((l.map (entOf enc)).toArray.isEmpty) 9999
  simp only[Instr.lookup,Sem.run_bind,run_underlying ht,MapKept.run_getObj_map h.block,Result.andThen,Sem.run_pure,hc,hf]
theorem IM.look_none (h:IM w b enc m) {k:Int} (hv:lookM m k=none) (c:Bool) {z:Value} (hz:(zeroValue e).run P w=.ok z w) :
  (Instr.lookup t (.map (some b)) (.int .i64 k) c).run P w=.ok (if c then .tuple #[z,.bool false] else z) w:=by
 obtain⟨l,clock,h,rfl⟩:=h
 rcases find_spec enc l k with ⟨h1,h2⟩|⟨j,x,h1,h2,h3⟩
 ·have hf:=MapKept.run_findKey (P:=P) (w:=w) hk h1
  have hc:=MapKept.run_checkKey (P:=P) (w:=w) (k:=.int .i64 k) hk rfl ((l.map (entOf enc)).toArray.isEmpty) 9999
  simp only[Instr.lookup,Sem.run_bind,run_underlying ht,MapKept.run_getObj_map h.block,Result.andThen,Sem.run_pure,hc,hf,hz]
 ·rw[look_of_some h.keys h2 h3] at hv;cases hv
theorem IM.store (h:IM w b enc m) (k:Int) (v:α) :
  ∃ w',(Instr.mapUpdate t (.map (some b)) (.int .i64 k) (enc v)).run P w=.ok () w'/\IM w' b enc (putM m k v)/\w.grownBy w' (some b)/\w'.heap.size=w.heap.size:=by
 obtain⟨l,clock,h,rfl⟩:=h
 have hc:=MapKept.run_checkKey (P:=P) (w:=w) (k:=.int .i64 k) hk rfl false 9999
 have hgr:∀ o,w.grownBy (setBlock w b o) (some b)/\(setBlock w b o).heap.size=w.heap.size:=fun o=>
  ⟨⟨rfl,rfl,rfl,by simp[setBlock],fun i _ hi=>heap_setBlock_other h.block _ (fun e=>hi (by rw[e]))⟩,by simp[setBlock]⟩
 rcases find_spec enc l k with ⟨h1,h2⟩|⟨j,x,h1,h2,h3⟩
 ·have hf:=MapKept.run_findKey (P:=P) (w:=w) hk h1
  refine⟨setBlock w b (.map ((l++[((k,v),clock)]).map (entOf enc)).toArray (clock+1)),?_,⟨l++[((k,v),clock)],clock+1,⟨heap_setBlock_same h.block _,?_,?_,?_⟩,?_⟩,(hgr _).1,(hgr _).2⟩
  ·simp only[Instr.mapUpdate,Sem.run_bind,run_underlying ht,MapKept.run_getObj_map h.block,Result.andThen,hc,hf,MapKept.run_setObj_map _ h.block,setBlock]
   simp[entOf]
  ·rw[List.map_append]
   refine List.nodup_append.2 ⟨h.keys,by simp,?_⟩
   intro a ha c hc e
   simp at hc
   obtain⟨y,hy,rfl⟩:=List.mem_map.1 ha
   exact h2 y hy (e.trans hc)
  ·rw[List.map_append]
   refine List.nodup_append.2 ⟨h.borns,by simp,?_⟩
   intro a ha c hc e
   simp at hc
   obtain⟨y,hy,rfl⟩:=List.mem_map.1 ha
   have:=h.old y hy
   omega
  ·intro y hy
   rcases List.mem_append.1 hy with hy|hy
   ·exact Nat.lt_succ_of_lt (h.old y hy)
   ·simp at hy;subst hy;exact Nat.lt_succ_self _
  ·unfold putM
   rw[if_neg (by rw[look_of_none h2];simp)]
   simp
 ·have hf:=MapKept.run_findKey (P:=P) (w:=w) hk h1
  have hjl:j<l.length:=(List.getElem?_eq_some_iff.1 h2).1
  have hkey:(((l.map (entOf enc)).toArray[j]?).map (·.key)).getD (.int .i64 k)=.int .i64 k:=by
   simp[List.getElem?_map,h2,entOf,h3]
  have hst:=MapKept.run_keyThatStays (P:=P) (w:=w) (d:=.int .i64) (k:=.int .i64 k) rfl
  have hmod:(l.map (entOf enc)).toArray.modify j (fun e=>{ e with key:=.int .i64 k,val:=enc v })=((l.map (fun x=>if x.1.1 == k then ((x.1.1,v),x.2) else x)).map (entOf enc)).toArray:=by
   apply Array.ext_getElem?
   intro i
   rw[Array.getElem?_modify]
   simp only[List.getElem?_toArray,List.getElem?_map]
   by_cases hij:j=i
   ·subst hij
    rw[if_pos rfl,h2]
    simp[entOf,h3]
   ·rw[if_neg hij]
    cases hi:l[i]? with
    | none=>rfl
    | some y=>
      have hy:y.1.1≠k:=by
       intro e
       have hil:i<l.length:=(List.getElem?_eq_some_iff.1 hi).1
       have e1:(l.map (·.1.1))[i]'(by simpa using hil)=y.1.1:=by rw[List.getElem_map];rw[(List.getElem?_eq_some_iff.1 hi).2]
       have e2:(l.map (·.1.1))[j]'(by simpa using hjl)=x.1.1:=by rw[List.getElem_map];rw[(List.getElem?_eq_some_iff.1 h2).2]
       have hp:=List.pairwise_iff_getElem.1 h.keys
       rcases Nat.lt_or_ge i j with hlt|hge
       ·exact hp i j (by simpa using hil) (by simpa using hjl) hlt (e1.trans (e.trans (h3.symm.trans e2.symm)))
       ·exact hp j i (by simpa using hjl) (by simpa using hil) (by omega) (e2.trans (h3.trans (e.symm.trans e1.symm)))
      simp[hy]
  refine⟨setBlock w b (.map ((l.map (fun x=>if x.1.1 == k then ((x.1.1,v),x.2) else x)).map (entOf enc)).toArray clock),?_,⟨_,clock,⟨heap_setBlock_same h.block _,?_,?_,?_⟩,?_⟩,(hgr _).1,(hgr _).2⟩
  ·simp only[Instr.mapUpdate,Sem.run_bind,run_underlying ht,MapKept.run_getObj_map h.block,Result.andThen,hc,hf,hkey,hst,MapKept.run_setObj_map _ h.block,setBlock,hmod]
  ·have:(l.map (fun x=>if x.1.1 == k then ((x.1.1,v),x.2) else x)).map (·.1.1)=l.map (·.1.1):=by
    rw[List.map_map];apply List.map_congr_left;intro y _;simp only[Function.comp];split<;>rfl
   rw[this];exact h.keys
  ·have:(l.map (fun x=>if x.1.1 == k then ((x.1.1,v),x.2) else x)).map (·.2)=l.map (·.2):=by
    rw[List.map_map];apply List.map_congr_left;intro y _;simp only[Function.comp];split<;>rfl
   rw[this];exact h.borns
  ·intro y hy
   obtain⟨z,hz,rfl⟩:=List.mem_map.1 hy
   have:=h.old z hz
   split<;>exact this
  ·unfold putM
   rw[if_pos (by rw[look_of_some h.keys h2 h3];rfl),List.map_map,List.map_map]
   apply List.map_congr_left
   intro y _
   simp only[Function.comp]
   split<;>rfl
omit hk in
theorem IM.size (h:IM w b enc m) (ty:TypeId):(Builtin.len_ #[t] ty #[.map (some b)]).run P w=.ok (.int .i64 m.length) w:=by
 obtain⟨l,clock,h,rfl⟩:=h
 simp[Builtin.len_,run_underlying ht,MapKept.run_getObj_map h.block,goInt]
omit ht hk
def IRange (w:World) (b r:Nat) (enc:α->Value) (m:List (Int × α)) (todo:List Int):Prop:=
 ∃ l clock since seen c0,IMap w b enc l clock/\l.map (·.1)=m/\w.heap[r]?=some (.mapIter (some b) since seen c0)/\(∀ x ∈ l,x.2<since)/\since<=c0/\since<=clock /\
   todo=(l.filter (fun x=>!seen.contains x.2)).map (·.1.1)
theorem IRange.im {r:Nat} {todo:List Int} (h:IRange w b r enc m todo):IM w b enc m:=by
 obtain⟨l,clock,since,seen,c0,h,hm,_⟩:=h
 exact⟨l,clock,h,hm⟩
theorem IRange.kept {w':World} {r:Nat} {todo:List Int} (h:IRange w b r enc m todo) (hb:w'.heap[b]?=w.heap[b]?) (hr:w'.heap[r]?=w.heap[r]?):IRange w' b r enc m todo:=by
 obtain⟨l,clock,since,seen,c0,h,hm,h1,h2,h3,h4,h5⟩:=h
 exact⟨l,clock,since,seen,c0,⟨hb.trans h.block,h.keys,h.borns,h.old⟩,hm,hr.trans h1,h2,h3,h4,h5⟩
theorem IRange.ne {r:Nat} {todo:List Int} (h:IRange w b r enc m todo):r≠b:=by
 obtain⟨l,clock,since,seen,c0,h,hm,h1,_⟩:=h
 intro e
 rw[e,h.block] at h1
 cases h1
theorem IRange.lt {r:Nat} {todo:List Int} (h:IRange w b r enc m todo):r<w.heap.size:=by
 obtain⟨l,clock,since,seen,c0,h,hm,h1,_⟩:=h
 exact(Array.getElem?_eq_some_iff.1 h1).1
include ht in
theorem IM.range (h:IM w b enc m) :
  ∃ w',(Instr.range t (.map (some b))).run P w=.ok (.pointer (some ⟨w.heap.size,0,none⟩)) w'/\IRange w' b w.heap.size enc m (m.map (·.1))/\Below w.heap.size w w'/\w'.heap.size=w.heap.size+1:=by
 have hlt:=h.lt
 obtain⟨l,clock,h,rfl⟩:=h
 refine⟨_,run_range_map w t kt e b _ clock ht h.block,⟨l,clock,clock,#[],clock,⟨((MapKept.heap_alloc w _).2 b hlt).trans h.block,h.keys,h.borns,h.old⟩,rfl,(MapKept.heap_alloc w _).1,h.old,Nat.le_refl _,Nat.le_refl _,?_⟩,below1 w _,by simp⟩
 rw[List.filter_eq_self.2 (by simp),List.map_map]
 rfl
theorem IRange.left {r:Nat} {todo:List Int} (h:IRange w b r enc m todo):w.rangeLeft b r=todo.length:=by
 obtain⟨l,clock,since,seen,c0,h,rfl,h1,h2,h3,h4,rfl⟩:=h
 simp only[World.rangeLeft,h.block,h1]
 have:(leftOf (l.map (entOf enc)).toArray seen).toList=(l.filter (fun x=>!seen.contains x.2)).map (entOf enc):=by
  simp only[leftOf,List.filter_toArray,List.filter_map]
  rfl
 rw[<-Array.length_toList,this]
 simp
theorem IRange.next {r:Nat} {todo:List Int} (h:IRange w b r enc m todo) :
  (todo=[]/\∀ ty,(Instr.next (.pointer (some ⟨r,0,none⟩)) false ty).run P w=.ok (.tuple #[.bool false]) w) \/
  ∃ k v w',k ∈ todo/\lookM m k=some v/\(∀ ty,(Instr.next (.pointer (some ⟨r,0,none⟩)) false ty).run P w=.ok (.tuple #[.bool true,.int .i64 k,enc v]) w') /\
    IRange w' b r enc m (todo.filter (· != k))/\w.grownBy w' (some r)/\w'.heap.size=w.heap.size/\(Instr.entry (.pointer (some ⟨r,0,none⟩))).run P w'=.ok (.tuple #[.int .i64 k,enc v]) w':=by
 have hne:=h.ne
 obtain⟨l,clock,since,seen,c0,h,rfl,h1,h2,h3,h4,rfl⟩:=h
 have hold:∀ x ∈ ((l.map (entOf enc)).toArray).toList,x.born<since:=by
  intro x hx
  obtain⟨y,hy,rfl⟩:=List.mem_map.1 (show x ∈ l.map (entOf enc) from hx)
  exact h2 y hy
 rcases run_next_at (P:=P) w 0 r b since c0 seen _ clock h1 h.block hold h3 with ⟨h0,hrun⟩|⟨x,hx,w1,hal,hrun⟩
 ·refine .inl ⟨?_,fun _=>hrun⟩
  have:(leftOf (l.map (entOf enc)).toArray seen).toList=(l.filter (fun x=>!seen.contains x.2)).map (entOf enc):=by
   simp only[leftOf,List.filter_toArray,List.filter_map]
   rfl
  have hz:(l.filter (fun x=>!seen.contains x.2)).length=0:=by
   have h5:=congrArg List.length this
   simp only[List.length_map,Array.length_toList,h0] at h5
   exact h5.symm
  rw[List.length_eq_zero_iff.1 hz];rfl
 ·obtain⟨hem,hes⟩:=mem_left hx
  obtain⟨y,hy,rfl⟩:=List.mem_map.1 (show x ∈ l.map (entOf enc) from hem)
  have hb1:w1.heap[b]?=some (.map (l.map (entOf enc)).toArray clock):=by rcases hal with rfl|rfl<;>exact h.block
  have hr1:w1.heap[r]?=some (.mapIter (some b) since seen c0):=by rcases hal with rfl|rfl<;>exact h1
  have hset:=heap_set (o':=.mapIter (some b) since (seen.push y.2) clock) hr1
  have hb':(setBlock w1 r (.mapIter (some b) since (seen.push y.2) clock)).heap[b]?=some (.map (l.map (entOf enc)).toArray clock):=(hset.2 b (fun e1=>hne e1.symm)).trans hb1
  have hnb:(((l.map (entOf enc)).toArray).toList.map (·.born)).Nodup:=by
   have e1:((l.map (entOf enc)).toArray).toList.map (·.born)=l.map (·.2):=by rw[List.map_map];rfl
   rw[e1]
   exact h.borns
  refine .inr ⟨y.1.1,y.1.2,_,?_,?_,fun _=>hrun,⟨l,clock,since,seen.push y.2,clock,⟨hb',h.keys,h.borns,h.old⟩,rfl,hset.1,h2,h4,h4,?_⟩,?_,?_,run_entry_at _ r b since seen _ clock (entOf enc y) hset.1 hb' hem hnb⟩
  ·exact List.mem_map.2 ⟨y,List.mem_filter.2 ⟨hy,by simpa [entOf] using hes⟩,rfl⟩
  ·exact lookM_of_mem (by rw[List.map_map];exact h.keys) (List.mem_map.2 ⟨y,hy,rfl⟩)
  ·rw[List.filter_map,List.filter_filter]
   congr 1
   apply List.filter_congr
   intro z hz
   have hzy:(z.1.1 != y.1.1)=!(z.2 == y.2):=by
    by_cases e1:z=y
    ·subst e1;simp
    ·have n1:z.1.1≠y.1.1:=fun e2=>e1 (inj_of_nodup h.keys hz hy e2)
     have n2:z.2≠y.2:=fun e2=>e1 (inj_of_nodup h.borns hz hy e2)
     rw[show(z.1.1 != y.1.1)=true by simpa using n1,show(z.2 == y.2)=false by simpa using n2];rfl
   show((z.1.1 != y.1.1) && !seen.contains z.2)=!(seen.push y.2).contains z.2
   rw[hzy,contains_push]
   cases seen.contains z.2<;>cases (z.2 == y.2)<;>rfl
  ·rcases hal with rfl|rfl<;>exact⟨rfl,rfl,rfl,by simp[setBlock],fun i _ hi=>hset.2 i (fun e1=>hi (by rw[e1]))⟩
  ·rcases hal with rfl|rfl<;>simp[setBlock]
theorem IRange.store {t kt e:TypeId} (ht:P.underlying t=some (.map kt e)) (hk:P.underlying kt=some (.int .i64)) {r:Nat} {todo:List Int} (h:IRange w b r enc m todo) {k:Int} (v:α) (hin:(lookM m k).isSome=true) :
  ∃ w',(Instr.mapUpdate t (.map (some b)) (.int .i64 k) (enc v)).run P w=.ok () w'/\IRange w' b r enc (putM m k v) todo/\w.grownBy w' (some b)/\w'.heap.size=w.heap.size:=by
 have hne:=h.ne
 obtain⟨l,clock,since,seen,c0,h,rfl,h1,h2,h3,h4,rfl⟩:=h
 obtain⟨w',hrun,⟨l',clock',h',hm'⟩,hg,hsz⟩:=IM.store ht hk ⟨l,clock,h,rfl⟩ k v
 -- the stamps are as they were
 have hc:=MapKept.run_checkKey (P:=P) (w:=w) (k:=.int .i64 k) hk rfl false 9999
 rcases find_spec enc l k with ⟨f1,f2⟩|⟨j,x,f1,f2,f3⟩
 ·rw[look_of_none f2] at hin;cases hin
 ·have hf:=MapKept.run_findKey (P:=P) (w:=w) hk f1
  have hkey:(((l.map (entOf enc)).toArray[j]?).map (·.key)).getD (.int .i64 k)=.int .i64 k:=by
   simp[List.getElem?_map,f2,entOf,f3]
  have hst:=MapKept.run_keyThatStays (P:=P) (w:=w) (d:=.int .i64) (k:=.int .i64 k) rfl
  have hrun2:(Instr.mapUpdate t (.map (some b)) (.int .i64 k) (enc v)).run P w=.ok () (setBlock w b (.map ((l.map (entOf enc)).toArray.modify j (fun e=>{ e with key:=.int .i64 k,val:=enc v })) clock)):=by
   simp only[Instr.mapUpdate,Sem.run_bind,run_underlying ht,MapKept.run_getObj_map h.block,Result.andThen,hc,hf,hkey,hst,MapKept.run_setObj_map _ h.block,setBlock]
  rw[hrun] at hrun2
  have hw':w'=setBlock w b (.map ((l.map (entOf enc)).toArray.modify j (fun e=>{ e with key:=.int .i64 k,val:=enc v })) clock):=by injection hrun2
  have hbl:=h'.block
  have hbl2:w'.heap[b]?=some (.map ((l.map (entOf enc)).toArray.modify j (fun e=>{ e with key:=.int .i64 k,val:=enc v })) clock):=by rw[hw'];exact heap_setBlock_same h.block _
  rw[hbl] at hbl2
  have hpair:((l'.map (entOf enc)).toArray=(l.map (entOf enc)).toArray.modify j (fun e=>{ e with key:=.int .i64 k,val:=enc v }))/\clock'=clock:=by simpa using hbl2
  obtain⟨ha,rfl⟩:=hpair
  have hb':l'.map (·.2)=l.map (·.2):=by
   have e1:(l'.map (entOf enc)).toArray.toList.map (·.born)=l'.map (·.2):=by rw[List.map_map];rfl
   have e2:(l.map (entOf enc)).toArray.toList.map (·.born)=l.map (·.2):=by rw[List.map_map];rfl
   rw[<-e1,<-e2,ha]
   generalize (l.map (entOf enc)).toArray=A
   apply List.ext_getElem?
   intro i
   simp only[List.getElem?_map,Array.getElem?_toList,Array.getElem?_modify]
   split
   ·cases A[i]?<;>rfl
   ·rfl
  have hkk:l'.map (·.1.1)=l.map (·.1.1):=by
   have e1:l'.map (·.1.1)=(l'.map (·.1)).map (·.1):=by rw[List.map_map];rfl
   have e2:l.map (·.1.1)=(l.map (·.1)).map (·.1):=by rw[List.map_map];rfl
   rw[e1,e2,hm',putM_keys_old hin]
  refine⟨w',hrun,⟨l',clock',since,seen,c0,h',hm',(hg.block r (Array.getElem?_eq_some_iff.1 h1).1 (fun e=>hne (by cases e;rfl))).trans h1,?_,h3,h4,?_⟩,hg,hsz⟩
  ·intro y hy
   have hyb:y.2 ∈ l.map (·.2):=hb'▸List.mem_map.2 ⟨y,hy,rfl⟩
   obtain⟨z,hz,hzy⟩:=List.mem_map.1 hyb
   rw[<-hzy];exact h2 z hz
  ·exact filter_same (fun n=>!seen.contains n) hkk hb'
end
end Go.Proofs.YtkpoodjhjfmfjaaGreatDoor
namespace Go.Proofs.YtkpoodjhjfmfjaaGreatDoor
open Go.RowKit
def Blk (w:World) (b:Nat) (T:TypeId) (cs:Array Value):Prop:=w.heap[b]?=some (.cells cs T)
theorem Blk.cell {w:World} {b:Nat} {T:TypeId} {cs:Array Value} (h:Blk w b T cs) {j:Nat} {v:Value} (hj:cs[j]?=some v):w.cell? ⟨b,j,none⟩=some v:=by
 unfold Blk at h
 simp[World.cell?,h,hj]
theorem Blk.fz {w:World} {b:Nat} {T:TypeId} {cs:Array Value} (h:Blk w b T cs) (j:Nat):w.frozen? ⟨b,j,none⟩=false:=by
 unfold Blk at h
 simp[World.frozen?,h]
theorem Blk.lt {w:World} {b:Nat} {T:TypeId} {cs:Array Value} (h:Blk w b T cs):b<w.heap.size:=(Array.getElem?_eq_some_iff.1 h).1
theorem Blk.kept {w w':World} {b:Nat} {T:TypeId} {cs:Array Value} (h:Blk w b T cs) (hb:w'.heap[b]?=w.heap[b]?):Blk w' b T cs:=hb.trans h
theorem Blk.up {w w':World} {b:Nat} {T:TypeId} {cs:Array Value} (h:Blk w b T cs) (hb:Below w.heap.size w w'):Blk w' b T cs:=h.kept (hb.block b h.lt)
theorem Blk.only {w w':World} {b:Nat} {T:TypeId} {cs:Array Value} {Z:Nat->Prop} (h:Blk w b T cs) (ho:Only Z w w') (hz:¬ Z b):Blk w' b T cs:=h.kept (ho.block b h.lt hz)
theorem Blk.made (w:World) (T:TypeId) (cs:Array Value):Blk (w.alloc (.cells cs T)) w.heap.size T cs:=(MapKept.heap_alloc w _).1
theorem Blk.set {w:World} {b:Nat} {T:TypeId} {cs:Array Value} (h:Blk w b T cs) {j:Nat} (hj:j<cs.size) (v:Value):Blk (w.setCell ⟨b,j,none⟩ v) b T (cs.set j v hj):=by
 unfold Blk at h ⊢
 have hs:=(Array.getElem?_eq_some_iff.1 h)
 obtain⟨hlt,he⟩:=hs
 simp only[World.setCell]
 rw[Array.getElem?_eq_getElem (by simpa using hlt)]
 simp[Array.getElem_modify,he,Array.setIfInBounds,hj]
set_option maxHeartbeats 1000000 in
theorem undo_new (w:World):Calls Tryz.prog 135 #[.int .i64 1048576] w fun e w'=>e=.returned (.tuple #[.pointer (some ⟨w.heap.size,0,none⟩),.int .i64 0])/\Below w.heap.size w w'/\w'.heap.size=w.heap.size+1 /\
  Blk w' w.heap.size 176 #[.int .i64 1048576,.slice none 0 0,.slice none 0 0,.int .i64 (-1),.int .i64 0,.int .i64 0]:=by
 go_enter Tryz.func135,Tryz.ntmps135
 go_wp2_with fail
 go_ret2
 exact⟨rfl,below1 w _,by simp,Blk.made w _ _⟩
end Go.Proofs.YtkpoodjhjfmfjaaGreatDoor
namespace Go.Proofs.YtkpoodjhjfmfjaaGreatDoor
open Go.RowKit
open Ovs (PropE encP eltP SortedP)
structure PrsAt (w:World) (b:Nat) (v:Value) (L:List PcE) (R:Nat->Prop):Prop where
 blk:Blk w b 192 #[v,.bool true]
 own:ROwn encPc 190 3 0 w v L
 lst:∀ x ∈ L,RSl encP w x.A x.ps/\(∀ g o,x.A=some ⟨g,o,none⟩->R g)/\x.ps.length<=x.c
 ok:PcsOk (L.map PcE.dat)
 vb:v.ownBlock≠some b
 nb:¬ R b
 nv:∀ k,v.ownBlock=some k->¬ R k
def listE (L:List PcE) (a:Int):Value:=match L[firstP (L.map PcE.dat) a]? with|some p=>if p.f<=a then p.pv else .slice none 0 0|none=>.slice none 0 0
def getV2 (o:Option (Int × Int)):Value:=.tuple #[.agg #[.int .i64 (o.getD (0,0)).1,.int .i64 (o.getD (0,0)).2],.bool o.isSome]
theorem mem_pieces {L:List PcE} (h:PcsOk (L.map PcE.dat)) {x:PcE} (hx:x ∈ L):PcK 64 x.dat:=h.ok _ (List.mem_map_of_mem hx)
section
variable {w w' : World} {b : Nat} {v : Value} {L : List PcE} {R Z : Nat → Prop} {A : Option Addr} {ps : List PropE}
theorem PrsAt.up (h:PrsAt w b v L R) (hb:Below w.heap.size w w'):PrsAt w' b v L R:=
 ⟨h.blk.up hb,h.own.up hb,fun x hx=>⟨(h.lst x hx).1.up hb,(h.lst x hx).2⟩,h.ok,h.vb,h.nb,h.nv⟩
theorem PrsAt.only (h:PrsAt w b v L R) (ho:Only Z w w') (hb:¬ Z b) (hv:∀ k,v.ownBlock=some k->¬ Z k) (hR:∀ k,R k->k<w.heap.size->¬ Z k):PrsAt w' b v L R:=
 ⟨h.blk.only ho hb,h.own.kept fun g hg=>ho.block g (h.own.lt hg) (hv g hg),fun x hx=>⟨fun hp=>by
  obtain⟨g,o,e,hg,hc⟩:=(h.lst x hx).1 hp
  have hgR:=(h.lst x hx).2.1 g o e
  exact⟨g,o,e,Nat.lt_of_lt_of_le hg ho.size,fun j u hu=>(World.cell?_of_block (w:=w) (a:=⟨g,o+j,none⟩) (ho.block g hg (hR g hgR hg))).trans (hc j u hu)⟩,(h.lst x hx).2⟩,h.ok,h.vb,h.nb,h.nv⟩
theorem PrsAt.len (h:PrsAt w b v L R):L.length<=65536:=by have:=h.ok.len;simpa using this
set_option maxHeartbeats 400000 in
theorem pnone (h:PrsAt w b v L R):Calls Tryz.prog 188 #[.pointer (some ⟨b,0,none⟩)] w fun e w'=>e=.returned (.bool false)/\w=w':=by
 have c1:=h.blk.cell (j:=1) rfl
 clear h
 go_enter Tryz.func188,Tryz.ntmps188
 go_wp2_with fail
 go_ret
 exact⟨rfl,rfl⟩
set_option maxRecDepth 100000 in
set_option maxHeartbeats 1000000 in
theorem plist (h:PrsAt w b v L R) (a:Int):Calls Tryz.prog 165 #[.pointer (some ⟨b,0,none⟩),.int .i64 a] w fun e w'=>e=.returned (listE L a)/\Below w.heap.size w w':=by
 have HN:=qH (pnone h)
 obtain⟨Av,cv,rfl,hvc,hvm,hRv⟩:=h.own.shape eltPc
 have hlen:=h.len
 have HF:=qH (pfirst h.ok hRv a cv (by omega))
 have c0:=h.blk.cell (j:=0) rfl
 have H:=qH h
 have HL:=qH (show listE L a=(match L[firstP (L.map PcE.dat) a]? with|some p=>if p.f<=a then p.pv else .slice none 0 0|none=>.slice none 0 0) from rfl)
 have hfl:=firstP_le (L.map PcE.dat) a
 rw[List.length_map] at hfl
 obtain⟨i,hi⟩:∃ i,i=firstP (L.map PcE.dat) a:=⟨_,rfl⟩
 rw[<-hi] at HF HL hfl
 generalize listE L a=V at HL ⊢
 clear h hi hvm
 go_enter Tryz.func165,Tryz.ntmps165
 go_wp2_with fail
 refine HN.out.mono ?_
 rintro e w1 ⟨rfl,rfl⟩
 go_wp2_with fail
 refine HF.out.mono ?_
 rintro e w1 ⟨rfl,hb1⟩
 have h1:=H.out.up hb1
 have c0:=h1.blk.cell (j:=0) rfl
 have HB:=qH hb1
 by_cases hlt:i<L.length
 ·obtain⟨⟨pf,pt,pA,pc,pp⟩,hx⟩:∃ x,L[i]?=some x:=⟨_,List.getElem?_eq_getElem hlt⟩
  obtain⟨g,o,rfl,hg,hc⟩:=(hRv.up hb1).at_ eltPc hx
  have e0:=hc 0 _ rfl
  have e1:=hc 1 _ rfl
  have e2:=hc 2 _ rfl
  simp only[<-Nat.add_assoc,Nat.add_zero] at e0 e1 e2
  have d0:decide ((i:Int)<L.length)=true:=decide_eq_true (by omega)
  have lt1:(i:Int)<L.length:=by omega
  have d01:(i<L.length)=True:=eq_true hlt
  have hV:=HL.out
  rw[hx] at hV
  dsimp only at hV
  clear hc hx hb1 h1 hRv HF HN HL hlt hfl
  by_cases hpa:pf<=a
  ·have d1:decide (pf<=a)=true:=decide_eq_true hpa
   rw[if_pos hpa] at hV
   have HV:=qH hV
   clear hV hpa
   go_wp2_with fail
   go_ret
   exact⟨by rw[HV.out];rfl,HB.out⟩
  ·have d1:decide (pf<=a)=false:=decide_eq_false hpa
   rw[if_neg hpa] at hV
   have HV:=qH hV
   clear hV hpa
   go_wp2_with fail
   go_ret
   exact⟨by rw[HV.out];rfl,HB.out⟩
 ·have d0:decide ((i:Int)<L.length)=false:=decide_eq_false (by omega)
  have d00:((i:Int)<L.length)=False:=eq_false (by omega)
  have d01:(i<L.length)=False:=eq_false hlt
  have hV:=HL.out
  rw[List.getElem?_eq_none (by omega)] at hV
  have HV:=qH hV
  clear hV hb1 h1 hRv HF HN HL hlt hfl
  go_wp2_with fail
  go_ret
  exact⟨by rw[HV.out];rfl,HB.out⟩
theorem listE_reads (h:PrsAt w b v L R) (a:Int):∃ A c,listE L a=.slice A (listP (L.map PcE.dat) a).length c/\RSl encP w A (listP (L.map PcE.dat) a)/\(listP (L.map PcE.dat) a).length<=64/\SortedP (listP (L.map PcE.dat) a):=by
 unfold listE listP
 rw[List.getElem?_map]
 cases hx:L[firstP (L.map PcE.dat) a]? with
 | none=>exact⟨none,0,rfl,RSl.nil _ _,by simp,sorted_nil⟩
 | some p=>
   dsimp only[Option.map_some]
   have hm:=List.mem_of_getElem? hx
   have hk:=mem_pieces h.ok hm
   have e:p.dat.f=p.f:=rfl
   rw[e]
   split
   ·exact⟨p.A,p.c,rfl,(h.lst p hm).1,hk.len,hk.so⟩
   ·exact⟨none,0,rfl,RSl.nil _ _,by simp,sorted_nil⟩
theorem getL_none {ps:List PropE} {nm:Int} (h:∀ x ∈ ps,x.name≠nm):getL ps nm=none:=by
 unfold getL
 rw[Option.map_eq_none_iff,List.find?_eq_none]
 intro x hx;simpa using h x hx
theorem getL_at {ps:List PropE} {nm:Int} {i:Nat} {x:PropE} (hi:ps[i]?=some x) (he:x.name=nm) (h:∀ j y,j<i->ps[j]?=some y->y.name≠nm):getL ps nm=some (x.kind,x.n):=by
 unfold getL
 have hil:=(List.getElem?_eq_some_iff.1 hi).1
 have:ps.find? (fun y=>y.name == nm)=some x:=by
  rw[List.find?_eq_some_iff_getElem]
  refine⟨by simpa using he,i,hil,(List.getElem?_eq_some_iff.1 hi).2,fun j hj=>?_⟩
  have:=h j _ hj (List.getElem?_eq_getElem (by omega))
  simpa using this
 rw[this];rfl
set_option maxRecDepth 100000 in
set_option maxHeartbeats 1000000 in
theorem pget (h:RSl encP w A ps) (c:Nat) (nm:Int) (hl:ps.length<=1000000):Calls Tryz.prog 164 #[.slice A ps.length c,.int .i64 nm] w fun e w'=>e=.returned (getV2 (getL ps nm))/\Below w.heap.size w w':=by
 have hb:=below1 w (.cells #[.int .i64 0,.int .i64 0] 31)
 have hk:=Blk.made w 31 #[.int .i64 0,.int .i64 0]
 have hz:(w.alloc (.cells #[.int .i64 0,.int .i64 0] 31)).heap.size=w.heap.size+1:=by simp
 have H:=qH (h.up hb)
 have HB:=qH hb
 have HK:=qH hk
 have HZ:=qH hz
 obtain⟨V,hV⟩:∃ V,V=getV2 (getL ps nm):=⟨_,rfl⟩
 rw[<-hV]
 have HV:=qH hV
 clear h hb hk hz hV
 go_enter Tryz.func164,Tryz.ntmps164
 go_wp2_with fail
 generalize w.alloc (.cells #[.int .i64 0,.int .i64 0] 31)=W at *
 go_loopw [10] (fun va wr=>∃ i:Nat,i<=ps.length/\va=.int .i64 i/\(∀ j y,j<i->ps[j]?=some y->y.name≠nm)/\Below W.heap.size W wr) (fun va _=>ps.length -(intOf va).toNat)
 case atStart=>exact⟨0,by omega,rfl,fun j y hj=>by omega,Below.refl _ _⟩
 case round=>
  obtain⟨i,hi,rfl,hno,hbr⟩:=hrel
  have HNO:=qH hno
  have HBR:=qH hbr
  have hkr:=HK.out.up hbr
  have hzr:=hbr.size
  by_cases hlt:i<ps.length
  ·obtain⟨⟨pn,pk,pv⟩,hx⟩:∃ x,ps[i]?=some x:=⟨_,List.getElem?_eq_getElem hlt⟩
   obtain⟨g,o,rfl,hg,hc⟩:=(H.out.up hbr).at_ eltP hx
   have e0:=hc 0 _ rfl
   have e1:=hc 1 _ rfl
   have e2:=hc 2 _ rfl
   simp only[<-Nat.add_assoc,Nat.add_zero] at e0 e1 e2
   have d0:decide ((i:Int)<ps.length)=true:=decide_eq_true (by omega)
   have lt1:(i:Int)<ps.length:=by omega
   have HX:=qH hx
   have hb6:=below1 wr (.cells #[.int .i64 pn,.int .i64 pk,.int .i64 pv] 140)
   have hk6:=Blk.made wr 140 #[.int .i64 pn,.int .i64 pk,.int .i64 pv]
   have k0:=hk6.cell (j:=0) rfl
   have k1:=hk6.cell (j:=1) rfl
   have k2:=hk6.cell (j:=2) rfl
   have hr6:=hkr.up hb6
   have r0:=hr6.cell (j:=0) rfl
   have r1:=hr6.cell (j:=1) rfl
   have g0:=hr6.fz 0
   have g1:=hr6.fz 1
   have hne:¬ w.heap.size=wr.heap.size:=by have:=HZ.out;omega
   have HR6:=qH hr6
   have HB6:=qH hb6
   clear hc hx hno hbr hkr hk6 hb6 hr6
   by_cases hpn:pn=nm
   ·have d1:(pn == nm)=true:=by simpa using hpn
    have HP:=qH hpn
    clear hpn
    go_wp2_with fail
    have hk7:=(HR6.out.set (j:=0) (by simp) (.int .i64 pk)).set (j:=1) (by simp) (.int .i64 pv)
    have q0:=hk7.cell (j:=0) rfl
    have q1:=hk7.cell (j:=1) rfl
    refine bodyPost_ret (v:=.tuple #[.agg #[.int .i64 pk,.int .i64 pv],.bool true]) (by simp[results,Tryz.f164,go_sem,q0,q1]) rfl ?_
    refine⟨by rw[HV.out,getL_at HX.out HP.out HNO.out];rfl,?_⟩
    have hZ:=HZ.out
    exact((((HB.out.trans (HBR.out.mono (by omega))).trans (HB6.out.mono (by omega))).setCell (p:=⟨w.heap.size,0,none⟩) (Nat.le_refl _) _).setCell (p:=⟨w.heap.size,1,none⟩) (Nat.le_refl _) _)
   ·have d1:(pn == nm)=false:=by simpa using hpn
    have HP:=qH hpn
    have p1:(pn=nm)=False:=eq_false hpn
    clear hpn
    go_wp2_with fail
    go_roundw
    case rel=>
     refine⟨i+1,by omega,by go_num,fun j y hj hy=>?_,HBR.out.trans (HB6.out.mono (by omega))⟩
     rcases Nat.lt_or_ge j i with h1|h1
     ·exact HNO.out j y h1 hy
     ·obtain rfl:j=i:=by omega
      rw[HX.out] at hy;cases hy;exact HP.out
    case measure=>simp[intOf];omega
  ·have d0:decide ((i:Int)<ps.length)=false:=decide_eq_false (by omega)
   have r0:=hkr.cell (j:=0) rfl
   have r1:=hkr.cell (j:=1) rfl
   have g0:=hkr.fz 0
   have g1:=hkr.fz 1
   have HKR:=qH hkr
   clear hno hbr hkr
   go_wp2_with fail
   have hk7:=(HKR.out.set (j:=0) (by simp) (.int .i64 0)).set (j:=1) (by simp) (.int .i64 0)
   have q0:=hk7.cell (j:=0) rfl
   have q1:=hk7.cell (j:=1) rfl
   refine bodyPost_ret (v:=.tuple #[.agg #[.int .i64 0,.int .i64 0],.bool false]) (by simp[results,Tryz.f164,go_sem,q0,q1]) rfl ?_
   refine⟨by rw[HV.out,getL_none fun x hx=>by obtain⟨j,hj⟩:=List.mem_iff_getElem?.1 hx;exact HNO.out j x (by have:=(List.getElem?_eq_some_iff.1 hj).1;omega) hj];rfl,?_⟩
   have hZ:=HZ.out
   exact((HB.out.trans (HBR.out.mono (by omega))).setCell (p:=⟨w.heap.size,0,none⟩) (Nat.le_refl _) _).setCell (p:=⟨w.heap.size,1,none⟩) (Nat.le_refl _) _
end
end Go.Proofs.YtkpoodjhjfmfjaaGreatDoor
namespace Go.Proofs.YtkpoodjhjfmfjaaGreatDoor
open Go.RowKit
open Ovs (PropE encP eltP SortedP)
section
variable {w w' : World} {b : Nat} {v : Value} {L : List PcE} {R Z : Nat → Prop} {A : Option Addr} {ps : List PropE}
def getP (P:List Pc) (a nm:Int):Option (Int × Int):=getL (listP P a) nm
set_option maxRecDepth 100000 in
set_option maxHeartbeats 1000000 in
theorem pGet (h:PrsAt w b v L R) (a nm:Int):Calls Tryz.prog 86 #[.pointer (some ⟨b,0,none⟩),.int .i64 a,.int .i64 nm] w fun e w'=>e=.returned (getV2 (getP (L.map PcE.dat) a nm))/\Below w.heap.size w w':=by
 have hb:=below1 w (.cells #[.int .i64 0,.int .i64 0] 31)
 have hk:=Blk.made w 31 #[.int .i64 0,.int .i64 0]
 have H:=qH (h.up hb)
 have HB:=qH hb
 have HK:=qH hk
 unfold getP
 obtain⟨Al,cl,hle,hlr,hll,hls⟩:=listE_reads (h.up hb) a
 have HLi:=qH (plist (h.up hb) a)
 rw[hle] at HLi
 have HR:=qH hlr
 have HLL:=qH hll
 clear h hb hk hle hlr hll hls
 generalize listP (L.map PcE.dat) a=ps at *
 obtain⟨⟨ok,on⟩,hok⟩:∃ z,z=((getL ps nm).getD (0,0)):=⟨_,rfl⟩
 obtain⟨os,hos⟩:∃ z,z=(getL ps nm).isSome:=⟨_,rfl⟩
 have hgv:getV2 (getL ps nm)=.tuple #[.agg #[.int .i64 ok,.int .i64 on],.bool os]:=by unfold getV2;rw[<-hok,<-hos]
 rw[hgv]
 have HG:=qH hgv
 clear hgv hok hos
 go_enter Tryz.func86,Tryz.ntmps86
 go_wp2_with fail
 generalize w.alloc (.cells #[.int .i64 0,.int .i64 0] 31)=W at *
 refine HLi.out.mono ?_
 rintro e w1 ⟨rfl,hb1⟩
 have HB1:=qH hb1
 have hpg:=pget (HR.out.up hb1) cl nm (by have:=HLL.out;omega)
 rw[HG.out] at hpg
 have HP:=qH hpg
 clear hb1 hpg HLi
 go_wp2_with fail
 refine HP.out.mono ?_
 rintro e w2 ⟨rfl,hb2⟩
 have hk1:=HK.out.up (up2 HB1.out hb2)
 have k0:=hk1.cell (j:=0) rfl
 have k1:=hk1.cell (j:=1) rfl
 have f0:=hk1.fz 0
 have f1:=hk1.fz 1
 have HB2:=qH (up2 HB1.out hb2)
 have HK1:=qH hk1
 clear hb2 hk1 HP
 go_wp2_with fail
 have hk2:=(HK1.out.set (j:=0) (by simp) (.int .i64 ok)).set (j:=1) (by simp) (.int .i64 on)
 have k0:=hk2.cell (j:=0) rfl
 have k1:=hk2.cell (j:=1) rfl
 refine bodyPost_ret (v:=.tuple #[.agg #[.int .i64 ok,.int .i64 on],.bool os]) (by simp[results,Tryz.f86,go_sem,k0,k1]) rfl ?_
 exact⟨rfl,((HB.out.trans (HB2.out.mono HB.out.size)).setCell (p:=⟨w.heap.size,0,none⟩) (Nat.le_refl _) _).setCell (p:=⟨w.heap.size,1,none⟩) (Nat.le_refl _) _⟩
set_option maxHeartbeats 400000 in
theorem pmay (f t:Int) (w:World):Calls Tryz.prog 225 #[.int .i64 f,.int .i64 t] w fun e w'=>e=.returned (.bool (mayP f t))/\w=w':=by
 go_enter Tryz.func225,Tryz.ntmps225
 go_wp2
 all_goals (go_ret;exact⟨ret_bool (Bool.eq_iff_iff.2 (by unfold mayP;simp<;>omega)),rfl⟩)
set_option maxHeartbeats 1000000 in
theorem pcheck (h:PrsAt w b v L R) (f t nm:Int):Calls Tryz.prog 190 #[.pointer (some ⟨b,0,none⟩),.int .i64 f,.int .i64 t,.int .i64 nm] w fun e w'=>e=.returned (.int .i64 (checkP f t nm))/\w=w':=by
 have HN:=qH (pnone h)
 have HM:=qH (pmay f t w)
 clear h
 unfold checkP
 cases hm:mayP f t
 ·rw[hm] at HM
  rw[if_pos rfl]
  clear hm
  go_enter Tryz.func190,Tryz.ntmps190
  go_wp2_with fail
  refine HN.out.mono ?_
  rintro e w1 ⟨rfl,rfl⟩
  go_wp2_with fail
  refine HM.out.mono ?_
  rintro e w1 ⟨rfl,rfl⟩
  go_wp2_with fail
  go_ret
  exact⟨rfl,rfl⟩
 ·rw[hm] at HM
  rw[if_neg (by simp)]
  clear hm
  by_cases hn:nm<0
  ·have d0:decide (nm<0)=true:=decide_eq_true hn
   rw[if_pos hn]
   clear hn
   go_enter Tryz.func190,Tryz.ntmps190
   go_wp2_with fail
   refine HN.out.mono ?_
   rintro e w1 ⟨rfl,rfl⟩
   go_wp2_with fail
   refine HM.out.mono ?_
   rintro e w1 ⟨rfl,rfl⟩
   go_wp2_with fail
   go_ret
   exact⟨rfl,rfl⟩
  ·have d0:decide (nm<0)=false:=decide_eq_false hn
   rw[if_neg hn]
   clear hn
   go_enter Tryz.func190,Tryz.ntmps190
   go_wp2_with fail
   refine HN.out.mono ?_
   rintro e w1 ⟨rfl,rfl⟩
   go_wp2_with fail
   refine HM.out.mono ?_
   rintro e w1 ⟨rfl,rfl⟩
   go_wp2_with fail
   go_ret
   exact⟨rfl,rfl⟩
def PcsPost (w:World) (L:List PcE) (e:Ending) (w':World):Prop:=∃ v,e=.returned v/\ROwn encPc 190 3 w.heap.size w' v L/\Below w.heap.size w w'
set_option maxRecDepth 100000 in
set_option maxHeartbeats 1000000 in
theorem clonePc (h:RSl encPc w A L) (c:Nat) (hl:L.length<=1000000):Calls Tryz.prog 189 #[.slice A L.length c] w (PcsPost w L):=by
 have h0:=ROwn.empty (enc:=encPc) (E:=190) (k:=3) w.heap.size w (Nat.le_refl _)
 obtain⟨v',w',happ,hown',hg,_⟩:=append_run eltPc h0 (by simp) (h.up (below1 _ _)) c (by simp;omega) (by omega)
 have HP:=qH happ
 clear happ
 rcases A with _|a
 ·have hL:L=[]:=by
   rcases Nat.eq_zero_or_pos L.length with h1|h1
   ·exact List.eq_nil_of_length_eq_zero h1
   ·obtain⟨g,o,e,_⟩:=h h1;cases e
  subst hL
  have hnil:=fun w=>Lib.run_eql_slice_nil (P:=Tryz.prog) w 187 190 none 0 c 0 0 Tryz.underlying187
  go_enter Tryz.func189,Tryz.ntmps189
  go_wp2_with fail
  go_ret
  exact⟨_,rfl,ROwn.nil _ _,Below.refl _ _⟩
 ·have hnil:=fun w=>Lib.run_eql_slice_nil (P:=Tryz.prog) w 187 190 (some a) L.length c 0 0 Tryz.underlying187
  go_enter Tryz.func189,Tryz.ntmps189
  go_wp2_with (at_builtin;refine wpList_app_run rfl _ _ _ rfl rfl rfl HP.out ?_)
  go_ret
  exact⟨_,rfl,by simpa using hown',(below1 _ _).grown hg (by simp) (fun k hk=>h0.base hk)⟩
def PrCpPost (w:World) (L:List PcE) (R:Nat->Prop) (e:Ending) (w':World):Prop:=∃ b' v',e=.returned (.pointer (some ⟨b',0,none⟩))/\PrsAt w' b' v' L R/\Below w.heap.size w w'/\w.heap.size<=b'/\∀ k,v'.ownBlock=some k->w.heap.size<=k
set_option maxRecDepth 100000 in
set_option maxHeartbeats 1000000 in
theorem pcopy (h:PrsAt w b v L R) (hR:∀ k,R k->k<w.heap.size):Calls Tryz.prog 115 #[.pointer (some ⟨b,0,none⟩)] w (PrCpPost w L R):=by
 have HN:=qH (pnone h)
 have hlen:=h.len
 have H:=qH h
 obtain⟨Av,cv,rfl,hvc,hvm,hRv⟩:=h.own.shape eltPc
 have HC:=qH (clonePc hRv cv (by omega))
 have c0:=h.blk.cell (j:=0) rfl
 have HRR:=qH hR
 clear h hvc hvm hRv hR
 go_enter Tryz.func115,Tryz.ntmps115
 go_wp2_with fail
 refine HN.out.mono ?_
 rintro e w1 ⟨rfl,rfl⟩
 go_wp2_with fail
 refine HC.out.mono ?_
 rintro e w1 ⟨v1,rfl,hown,hb1⟩
 have h1:=H.out.up hb1
 have hb2:=below1 w1 (.cells #[v1,.bool true] 192)
 have hk2:=Blk.made w1 192 #[v1,.bool true]
 have hsz:=hb1.size
 have h2:=h1.up hb2
 have ho2:=hown.up hb2
 have HX:=qH (⟨hb1,hb2,hk2,h2,ho2,hsz,hown⟩:_/\_/\_/\_/\_/\_/\_)
 obtain⟨A1,c1,rfl,_,_,_⟩:=hown.shape eltPc
 clear hb1 h1 hb2 hk2 hsz h2 ho2 hown
 go_wp2_with fail
 go_ret
 obtain⟨hb1,hb2,hk2,h2,ho2,hsz,hown⟩:=HX.out
 refine⟨w1.heap.size,.slice A1 L.length c1,rfl,⟨hk2,ho2.low (Nat.zero_le _),h2.lst,h2.ok,fun e=>?_,fun e=>?_,fun k hk e=>?_⟩,hb1.trans (hb2.mono hsz),hsz,fun k hk=>hown.base hk⟩
 ·have:=hown.lt e;omega
 ·have:=HRR.out _ e;omega
 ·have:=HRR.out _ e;have:=hown.base hk;omega
end
end Go.Proofs.YtkpoodjhjfmfjaaGreatDoor
namespace Go.Proofs.YtkpoodjhjfmfjaaGreatDoor.Ovs
open Go.RowKit
section
variable {w w' : World} {x : OverE} {L L' : List OverE} {b : Nat} {pr ev nx : Int} {v v' : Value} {A : Option Addr} {ps : List PropE}
end
end Go.Proofs.YtkpoodjhjfmfjaaGreatDoor.Ovs
namespace Go.Proofs.YtkpoodjhjfmfjaaGreatDoor.Ovs
open Go.RowKit
section
variable {w w' : World} {x : OverE} {L L' M : List OverE} {b B : Nat} {pr ev nx : Int} {v v' : Value} {A : Option Addr} {ps : List PropE}
theorem _root_.Go.Proofs.YtkpoodjhjfmfjaaGreatDoor.RSl.lt {α:Type} {enc:α->List Value} {xs:List α} (h:RSl enc w A xs) (hp:0<xs.length) {g o:Nat} (e:A=some ⟨g,o,none⟩):g<w.heap.size:=by
 obtain⟨g',o',e',hg,_⟩:=h hp
 rw[e] at e';cases e';exact hg
end
end Go.Proofs.YtkpoodjhjfmfjaaGreatDoor.Ovs
