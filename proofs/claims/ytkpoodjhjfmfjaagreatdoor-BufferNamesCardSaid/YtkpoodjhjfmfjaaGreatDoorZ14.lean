/- A part. -/
import Derived.Test.YtkpoodjhjfmfjaaGreatDoorZ13
import Derived.RangeFuncBox
import Derived.RangeFuncLeaves
import Derived.Shelf.Abstract
import Derived.WalkKit
import Derived.OwnWalkIn
import Derived.TacticsInMore
import Derived.LoopNIn
import Derived.LoopIn
import Derived.Maps.AppendAt
import Derived.KernelRfl
import Derived.Shelf.SlIter.Collect
import Derived.Test.YtkpoodjhjfmfjaaGreatDoorProg
import Derived.Test.YtkpoodjhjfmfjaaGreatDoorZrt
import Derived.RangeFuncNested
import Derived.RangeFuncBound
import Derived.RangeFuncCalls
import Derived.RangeFuncFrom
import Derived.Shelf.RegionOpen
set_option linter.unusedVariables false
set_option linter.unusedSimpArgs false
namespace Go.Proofs.YtkpoodjhjfmfjaaGreatDoor
open Go.RowKit Go.Lib
open Ovs (PropE)
def AllQ (Q:List PropE->Prop) (l:List Pc):Prop:=∀ x ∈ l,Q x.ps
section
variable {Q : List PropE → Prop} {l : List Pc} {f t a n : Int} {ps : List PropE} {g : List PropE → List PropE}
theorem AllQ.nil:AllQ Q []:=fun x hx=>by simp at hx
theorem AllQ.app {l':List Pc} (h:AllQ Q l) (h':AllQ Q l'):AllQ Q (l++l'):=fun x hx=>(List.mem_append.1 hx).elim (h x) (h' x)
theorem AllQ.sub {l':List Pc} (h:AllQ Q l) (hs:∀ x ∈ l',x ∈ l):AllQ Q l':=fun x hx=>h x (hs x hx)
theorem AllQ.add (h:AllQ Q l) (hp:Q ps):AllQ Q (addP l f t ps):=by
 unfold addP
 split
 ·exact h
 ·split
  ·split
   ·rename_i k hk e
    refine AllQ.app (h.sub fun x hx=>List.dropLast_subset _ hx) (fun x hx=>?_)
    obtain rfl:=List.mem_singleton.1 hx
    exact h k (List.mem_of_getLast? hk)
   ·exact h.app (fun x hx=>by obtain rfl:=List.mem_singleton.1 hx;exact hp)
  ·exact fun x hx=>by obtain rfl:=List.mem_singleton.1 hx;exact hp
theorem foldl_all {α:Type} {f:List Pc->α->List Pc} {l:List α} (hf:∀ o x,x ∈ l->AllQ Q o->AllQ Q (f o x)):∀ o,AllQ Q o->AllQ Q (l.foldl f o):=by
 induction l with
 | nil=>exact fun o h=>h
 | cons y l ih=>exact fun o h=>ih (fun o x hx=>hf o x (List.mem_cons_of_mem _ hx)) _ (hf o y (by simp) h)
theorem AllQ.ins (h:AllQ Q l):AllQ Q (insertedP l a n):=by
 unfold insertedP
 split
 ·refine foldl_all (fun o x hx ho=>?_) [] AllQ.nil
  unfold insStep
  dsimp only
  split
  ·exact(ho.add (h x hx)).add (h x hx)
  ·exact ho.add (h x hx)
 ·exact h
theorem AllQ.del (h:AllQ Q l):AllQ Q (deletedP l f t):=by
 unfold deletedP
 split
 ·exact foldl_all (fun o x hx ho=>by unfold delStep;exact(ho.add (h x hx)).add (h x hx)) [] AllQ.nil
 ·exact h
theorem fill_all {s:List Pc × Int} {e:Int} (h:AllQ Q s.1) (hg:Q (g [])):AllQ Q (fillP g s e).1:=by
 unfold fillP;split
 ·exact h.add hg
 ·exact h
theorem step_all {s:List Pc × Int} {p:Pc} (h:AllQ Q s.1) (hg:Q (g [])) (hp:Q p.ps) (hgp:Q (g p.ps)):AllQ Q (stepP f t g s p).1:=by
 have h1:AllQ Q (midP f t g (addP s.1 p.f (min p.t f) p.ps,s.2) p).1:=by
  unfold midP
  split
  ·exact(fill_all (h.add hp) hg).add hgp
  ·exact h.add hp
 unfold stepP tailP
 split
 ·exact(fill_all h1 hg).add hp
 ·exact h1
theorem AllQ.changed (h:AllQ Q l) (hg:Q (g [])) (hgp:∀ x ∈ l,Q (g x.ps)):AllQ Q (changedP l f t g):=by
 unfold changedP
 refine fill_all ?_ hg
 suffices H:∀(l:List Pc) (s:List Pc × Int),AllQ Q l->(∀ x ∈ l,Q (g x.ps))->AllQ Q s.1->AllQ Q (l.foldl (stepP f t g) s).1 from H l _ h hgp AllQ.nil
 intro l
 induction l with
 | nil=>exact fun s _ _ h=>h
 | cons y l ih=>exact fun s h1 h2 h3=>ih _ (fun x hx=>h1 x (List.mem_cons_of_mem _ hx)) (fun x hx=>h2 x (List.mem_cons_of_mem _ hx)) (step_all h3 hg (h1 y (by simp)) (h2 y (by simp)))
theorem AllQ.change (h:AllQ Q l) (hg:Q (g [])) (hgp:∀ x ∈ l,Q (g x.ps)):AllQ Q (changeP l f t g):=by
 unfold changeP
 have hs:∀ x ∈ (l.drop (loP l f)).take (hiP l t - loP l f),x ∈ l:=fun x hx=>List.mem_of_mem_drop (List.mem_of_mem_take hx)
 exact((h.sub fun x hx=>List.mem_of_mem_take hx).app ((h.sub hs).changed hg (fun x hx=>hgp x (hs x hx)))).app (h.sub fun x hx=>List.mem_of_mem_drop hx)
end
def NmQ (ps:List PropE):Prop:=∀ q ∈ ps,0<=q.name
theorem nmQ_with {x:PropE} {ps:List PropE} (hx:0<=x.name) (h:NmQ ps):NmQ (withP x ps):=by
 intro q hq
 unfold withP at hq
 rcases List.mem_append.1 hq with hq|hq
 ·exact h q ((List.takeWhile_sublist _).subset hq)
 ·rcases List.mem_cons.1 hq with rfl|hq
  ·exact hx
  ·have hd:∀ y ∈ ps.dropWhile (fun y=>decide (y.name<x.name)),y ∈ ps:=fun y hy=>(List.dropWhile_sublist _).subset hy
   split at hq
   ·rename_i y r e
    split at hq
    ·exact h q (hd q (by rw[e];exact List.mem_cons_of_mem _ hq))
    ·exact h q (hd q (by rw[e];exact hq))
   ·simp at hq
theorem nmQ_without {nm:Int} {ps:List PropE} (h:NmQ ps):NmQ (withoutP nm ps):=fun q hq=>h q (List.mem_filter.1 hq).1
theorem NmOk.ins {P:List Pc} (h:NmOk P) (a n:Int):NmOk (insertedP P a n):=AllQ.ins (Q:=NmQ) h
theorem NmOk.del {P:List Pc} (h:NmOk P) (f t:Int):NmOk (deletedP P f t):=AllQ.del (Q:=NmQ) h
theorem checkP_nm {f t nm:Int} (h:checkP f t nm=0):0<=nm:=by
 unfold checkP at h
 split at h
 ·omega
 ·split at h<;>omega
theorem NmOk.put {P:List Pc} (h:NmOk P) (f t:Int) (x:PropE):NmOk (putP P f t x):=by
 unfold putP
 split
 ·rename_i e
  have hc:checkP f t x.name=0:=by
   unfold putE at e
   split at e
   ·rename_i e2;omega
   ·rename_i e2;simpa using e2
  have hx:=checkP_nm hc
  exact AllQ.change (Q:=NmQ) h (nmQ_with hx (fun q hq=>by simp at hq)) (fun y hy=>nmQ_with hx (h y hy))
 ·exact h
theorem NmOk.take {P:List Pc} (h:NmOk P) (f t nm:Int):NmOk (takePP P f t nm):=by
 unfold takePP
 split
 ·exact AllQ.change (Q:=NmQ) h (fun q hq=>by simp[withoutP] at hq) (fun y hy=>nmQ_without (h y hy))
 ·exact h
theorem NmOk.spans {P:List Pc} (h:NmOk P) (f t:Int):∀ p ∈ spansP P f t 0,∀ q ∈ p.ps,0<=q.name:=by
 intro p hp
 unfold spansP at hp
 split at hp
 ·obtain⟨x,hx,he⟩:=List.mem_filterMap.1 hp
  split at he
  ·cases he;exact h x hx
  ·cases he
 ·simp at hp
section
variable {M : List (Int × Mks.Mk)} {n : Int}
theorem WfM.map {u:Int × Mks.Mk->Int × Mks.Mk} (h:WfM M n) (hu:∀ x,(u x).1=x.1):WfM (M.map u) n:=
 ⟨by rw[List.map_map,show((fun x:Int × Mks.Mk=>x.1) ∘ u)=(fun x=>x.1) from funext hu];exact h.asc,by simpa using h.len,h.n0⟩
theorem insR_n (M:List (Int × Mks.Mk)) (n a k:Int) (ah:Bool):(Mks.insR M n a k ah).n=n:=by unfold Mks.insR;(repeat' split)<;>rfl
theorem delR_n (M:List (Int × Mks.Mk)) (n f t:Int):(Mks.delR M n f t).n=n:=by unfold Mks.delR;(repeat' split)<;>rfl
theorem WfM.ins (h:WfM M n) (a k:Int) (ah:Bool):WfM (Mks.insR M n a k ah).m n:=by
 unfold Mks.insR
 (repeat' split)<;>first|exact h|exact h.map (fun _=>rfl)
theorem WfM.del (h:WfM M n) (f t:Int):WfM (Mks.delR M n f t).m n:=by
 unfold Mks.delR
 (repeat' split)<;>first|exact h|exact h.map (fun _=>rfl)
theorem putM_wf (h:WfM M n) {id:Int} {v y:Mks.Mk} (hx:lookM M id=some v):WfM (putM M id y) n:=by
 have hk:(putM M id y).map (·.1)=M.map (·.1):=putM_keys_old (by rw[hx];rfl)
 exact⟨by rw[hk];exact h.asc,by have:=congrArg List.length hk;rw[List.length_map,List.length_map] at this;rw[this];exact h.len,h.n0⟩
theorem WfM.move (h:WfM M n) (id a:Int):WfM (Mks.moveR M n id a).m (Mks.moveR M n id a).n:=by
 unfold Mks.moveR
 split
 ·exact h
 ·rename_i v hv
  split
  ·exact h
  ·exact putM_wf h hv
theorem WfM.add (h:WfM M n) (hi:∀ p ∈ M,p.1<n) (a:Int) (on:Bool):WfM (Mks.addR M n a on).m (Mks.addR M n a on).n:=by
 unfold Mks.addR
 split
 ·exact h
 ·split
  ·exact h
  ·refine⟨?_,by simp;omega,by have:=h.n0;simp only;omega⟩
   rw[List.map_append]
   exact List.pairwise_append.2 ⟨h.asc,by simp,fun x hx y hy=>by
    simp at hy;subst hy
    obtain⟨p,hp,rfl⟩:=List.mem_map.1 hx
    exact hi p hp⟩
end
end Go.Proofs.YtkpoodjhjfmfjaaGreatDoor
namespace Go.Proofs.YtkpoodjhjfmfjaaGreatDoor
open Go.RowKit Go.Lib
open Ovs (PropE)
structure SameParts (s s':St):Prop where
 pr:s'.pr=s.pr
 ev:s'.ev=s.ev
 cs:s'.cs=s.cs
 M:s'.M=s.M
 mn:s'.mn=s.mn
 P:s'.P=s.P
 D:s'.D=s.D
 nx:s'.nx=s.nx
 L:s'.L=s.L
 X:s'.X=s.X
section
variable {w w' w1 : World} {N b n c : Nat} {F R : Nat → Prop} {a : Adr} {s s' : St} {col : Nat → Nat}
theorem colG_grow (n c:Nat):∀ k,grow (fun k=>col k=c) n k->colG col n c k=c:=by
 intro k hk;unfold colG;split
 ·exact hk.elim id (fun e=>by omega)
 ·rfl
theorem Out.cN (o:Out N w F R col) {c:Nat} (h1:1<=c) (h2:c<=7):∀ k,col k=c->N<=k:=fun k hk=>o.hN k (o.inF k (by omega) (by omega))
theorem one_col {c:Nat} (h1:1<=c) (h2:c<=7):∀ i,(fun i=>i=c) i->1<=i/\i<=7:=fun i hi=>by simp only at hi;omega
theorem GBa.setGap {cs':List Nat} (o:Out N w F R col) (k:Core w b col a s) (ho:Only (fun k=>col k=2) w w') (hg:GapF1 w' a.t (grow (fun k=>col k=2) w.heap.size) cs'):ToA N w b F R a { s with cs:=cs' } w':=by
 have he:=colG_eq (col:=col) w.heap.size 2
 exact o.to (fun i=>i=2) (one_col (by omega) (by omega)) he ho ⟨k.buf_ (C:=fun i=>i=2) ho (by simp),k.cb_ he,hg.mono (colG_grow _ _),k.mks_ (C:=fun i=>i=2) ho (by simp) he,k.prs_ (C:=fun i=>i=2) ho (by simp) (by simp) he,k.ovs_ (C:=fun i=>i=2) ho (by simp) he,k.log_ (C:=fun i=>i=2) ho (by simp) he,k.exc_ (C:=fun i=>i=2) ho (by simp) he⟩
theorem GBa.setMks {M':List (Int × Mks.Mk)} {n':Int} (o:Out N w F R col) (k:Core w b col a s) (ho:Only (fun k=>col k=3) w w') (hg:MkT w' a.m (fun k=>col k=3) M' n'):ToA N w b F R a { s with M:=M',mn:=n' } w':=by
 have he:=colG_eq (col:=col) w.heap.size 3
 exact o.to (fun i=>i=3) (one_col (by omega) (by omega)) he ho ⟨k.buf_ (C:=fun i=>i=3) ho (by simp),k.cb_ he,k.gap_ (C:=fun i=>i=3) ho (by simp) he,hg.only (Only.refl (fun _=>False) w') (fun _ _ _=>id) (fun i hi _=>colG_grow _ _ i (.inl hi)),k.prs_ (C:=fun i=>i=3) ho (by simp) (by simp) he,k.ovs_ (C:=fun i=>i=3) ho (by simp) he,k.log_ (C:=fun i=>i=3) ho (by simp) he,k.exc_ (C:=fun i=>i=3) ho (by simp) he⟩
theorem GBa.setPrs {col':Nat->Nat} {P':List Pc} (o:Out N w F R col) (k:Core w b col a s) (he:ColEq w.heap.size col col') (ho:Only (fun k=>col k=4) w w') (hg:PrT w' a.p (fun k=>col' k=4) (fun k=>col' k=8) P'):ToA N w b F R a { s with P:=P' } w':=
 o.to (fun i=>i=4) (one_col (by omega) (by omega)) he ho ⟨k.buf_ (C:=fun i=>i=4) ho (by simp),k.cb_ he,k.gap_ (C:=fun i=>i=4) ho (by simp) he,k.mks_ (C:=fun i=>i=4) ho (by simp) he,hg,k.ovs_ (C:=fun i=>i=4) ho (by simp) he,k.log_ (C:=fun i=>i=4) ho (by simp) he,k.exc_ (C:=fun i=>i=4) ho (by simp) he⟩
theorem GBa.setOvs {D':List Ovs.OverD} {nx':Int} (o:Out N w F R col) (k:Core w b col a s) (ho:Only (fun k=>col k=5) w w') (hg:OvT w' a.o (grow (fun k=>col k=5) w.heap.size) s.pr s.ev D' nx'):ToA N w b F R a { s with D:=D',nx:=nx' } w':=by
 have he:=colG_eq (col:=col) w.heap.size 5
 exact o.to (fun i=>i=5) (one_col (by omega) (by omega)) he ho ⟨k.buf_ (C:=fun i=>i=5) ho (by simp),k.cb_ he,k.gap_ (C:=fun i=>i=5) ho (by simp) he,k.mks_ (C:=fun i=>i=5) ho (by simp) he,k.prs_ (C:=fun i=>i=5) ho (by simp) (by simp) he,hg.only (Only.refl (fun _=>False) w') (fun _ _ _=>id) (fun i hi _=>colG_grow _ _ i hi),k.log_ (C:=fun i=>i=5) ho (by simp) he,k.exc_ (C:=fun i=>i=5) ho (by simp) he⟩
theorem GBa.setLog {L':Lg} (o:Out N w F R col) (k:Core w b col a s) (ho:Only (fun k=>col k=6) w w') (hg:LogT w' a.l (grow (fun k=>col k=6) w.heap.size) L'):ToA N w b F R a { s with L:=L' } w':=by
 have he:=colG_eq (col:=col) w.heap.size 6
 exact o.to (fun i=>i=6) (one_col (by omega) (by omega)) he ho ⟨k.buf_ (C:=fun i=>i=6) ho (by simp),k.cb_ he,k.gap_ (C:=fun i=>i=6) ho (by simp) he,k.mks_ (C:=fun i=>i=6) ho (by simp) he,k.prs_ (C:=fun i=>i=6) ho (by simp) (by simp) he,k.ovs_ (C:=fun i=>i=6) ho (by simp) he,hg.mono (colG_grow _ _),k.exc_ (C:=fun i=>i=6) ho (by simp) he⟩
theorem GBa.setBuf (o:Out N w F R col) (k:Core w b col a s) (ho:Only (fun k=>col k=1) w w') (hb:BufB w' b (s'.bs a)) (hp:SameParts s s'):ToA N w b F R a s' w':=by
 have he:ColEq w.heap.size col (colG col w.heap.size 0):=colG_eq _ _
 exact o.to (fun i=>i=1) (one_col (by omega) (by omega)) he ho ⟨hb,k.cb_ he,by rw[hp.cs];exact k.gap_ (C:=fun i=>i=1) ho (by simp) he,by rw[hp.M,hp.mn];exact k.mks_ (C:=fun i=>i=1) ho (by simp) he,by rw[hp.P];exact k.prs_ (C:=fun i=>i=1) ho (by simp) (by simp) he,by rw[hp.D,hp.nx,hp.pr,hp.ev];exact k.ovs_ (C:=fun i=>i=1) ho (by simp) he,by rw[hp.L];exact k.log_ (C:=fun i=>i=1) ho (by simp) he,by rw[hp.X];exact k.exc_ (C:=fun i=>i=1) ho (by simp) he⟩
theorem GBa.store (h:GBa N w b F R a s) (s':St) {j:Nat} (hj:j<19) (v:Value) (hp:SameParts s s') (hv:(bufC (s.bs a)).set j v (by simpa using hj)=bufC (s'.bs a)):ToA N w b F R a s' (w.setCell ⟨b,j,none⟩ v):=by
 obtain⟨col,o,k⟩:=h
 have h1:=k.buf.set (j:=j) (by simpa using hj) v
 rw[hv] at h1
 exact GBa.setBuf o k ((Only.refl (fun k=>col k=1) w).setCell (p:=⟨b,j,none⟩) k.cb v) h1 hp
theorem GBa.tins (h:GBa N w b F R a s) (tx:ByteArray) (hs:tx.size<=262144) (hv:(charsD tx.data.toList).isSome=true) (x:Int) :
  Calls Tryz.prog 169 #[pAt a.t,.int .i64 x,.string tx] w fun e w'=>(∃ q,e=.returned (.int .i64 q))/\ToA N w b F R a { s with cs:=insX s.cs x (chrs tx) } w':=by
 obtain⟨col,o,k⟩:=h
 exact(gapIns o.tb k.gap (o.cN (by omega) (by omega)) tx hs hv x).mono fun e w' ⟨he,hg,ho⟩=>⟨he,GBa.setGap o k ho hg⟩
theorem GBa.tdel (h:GBa N w b F R a s) (x y:Int) :
  Calls Tryz.prog 153 #[pAt a.t,.int .i64 x,.int .i64 y] w fun e w'=>(∃ q,e=.returned (.int .i64 q))/\ToA N w b F R a { s with cs:=delX s.cs x y } w':=by
 obtain⟨col,o,k⟩:=h
 exact(gapDel k.gap x y).mono fun e w' ⟨he,hg,ho⟩=>⟨he,GBa.setGap o k ho hg⟩
theorem GBa.tslice (h:GBa N w b F R a s) (x y:Int) :
  Calls Tryz.prog 101 #[pAt a.t,.int .i64 x,.int .i64 y] w fun e w'=>(∃ q,e=.returned (.tuple #[.string (encS (subX s.cs x y)),.int .i64 q])/\(q=0 ↔ (1<=x/\x<=y/\y<=s.cs.length+1)))/\Below w.heap.size w w':=by
 obtain⟨col,o,k⟩:=h
 exact gapSl k.gap x y
theorem GBa.tsize (h:GBa N w b F R a s):Calls Tryz.prog 100 #[pAt a.t] w fun e w'=>e=.returned (.int .i64 s.cs.length)/\Below w.heap.size w w':=by
 obtain⟨col,o,k⟩:=h
 exact gapSize k.gap
theorem GBa.len (h:GBa N w b F R a s):s.cs.length<=65536:=by obtain⟨col,o,k⟩:=h;exact k.gap.le
theorem GBa.isN (h:GBa N w b F R a s):∀ c ∈ s.cs,isN c:=by obtain⟨col,o,k⟩:=h;exact k.gap.cn
theorem GBa.wfM (h:GBa N w b F R a s):WfM s.M s.mn:=by obtain⟨col,o,k⟩:=h;obtain⟨bm,h1,h2,h3,h4⟩:=k.mks;exact h4
theorem GBa.mids (h:GBa N w b F R a s):(∀ p ∈ s.M,0<=p.1/\p.1<s.mn)/\∀ p ∈ s.M,1<=p.2.1/\p.2.1<=1099511627776:=by obtain⟨col,o,k⟩:=h;obtain⟨bm,h1,h2,h3,h4⟩:=k.mks;exact⟨h1.ids,h1.ats⟩
theorem GBa.nmOk (h:GBa N w b F R a s):NmOk s.P:=by obtain⟨col,o,k⟩:=h;obtain⟨v,L,Q,h1,h2,h3,h4,h5,h6⟩:=k.prs;exact h6
theorem GBa.pcsOk (h:GBa N w b F R a s):PcsOk s.P:=by obtain⟨col,o,k⟩:=h;obtain⟨v,L,Q,h1,h2,h3,h4,h5,h6⟩:=k.prs;rw[<-h2];exact h1.ok
theorem GBa.mk1 {f:FuncId} {args:Array Value} {r:Mks.DoR} (h:GBa N w b F R a s) (hc:∀ bm,Mks.MarksAt w a.m bm s.M s.mn->Calls Tryz.prog f args w (Mks.Post1 w a.m bm r)) (hw:WfM s.M s.mn->WfM r.m r.n) :
  Calls Tryz.prog f args w fun e w'=>e=.returned (.int .i64 r.err)/\ToA N w b F R a { s with M:=r.m,mn:=r.n } w':=by
 obtain⟨col,o,k⟩:=h
 obtain⟨bm,h1,h2,h3,h4⟩:=k.mks
 exact(hc bm h1).mono fun e w' ⟨he,hm,ho⟩=>⟨he,GBa.setMks o k (ho.mono fun i hi=>hi.elim (fun e=>e▸h2) (fun e=>e▸h3)) ⟨bm,hm,h2,h3,hw h4⟩⟩
theorem GBa.mk2 {f:FuncId} {args:Array Value} {r:Mks.DoR} (h:GBa N w b F R a s) (hc:∀ bm,Mks.MarksAt w a.m bm s.M s.mn->Calls Tryz.prog f args w (Mks.Post2 w a.m bm r)) (hw:WfM s.M s.mn->WfM r.m r.n) :
  Calls Tryz.prog f args w fun e w'=>e=.returned (.tuple #[.int .i64 r.ret,.int .i64 r.err])/\ToA N w b F R a { s with M:=r.m,mn:=r.n } w':=by
 obtain⟨col,o,k⟩:=h
 obtain⟨bm,h1,h2,h3,h4⟩:=k.mks
 exact(hc bm h1).mono fun e w' ⟨he,hm,ho⟩=>⟨he,GBa.setMks o k (ho.mono fun i hi=>hi.elim (fun e=>e▸h2) (fun e=>e▸h3)) ⟨bm,hm,h2,h3,hw h4⟩⟩
theorem GBa.mins (h:GBa N w b F R a s) (x n:Int) (bf:Bool) :
  Calls Tryz.prog 170 #[pAt a.m,.int .i64 x,.int .i64 n,.bool bf] w fun e w'=>(∃ q,e=.returned (.int .i64 q))/\ToA N w b F R a { s with M:=(Mks.insR s.M s.mn x n bf).m } w':=
 (h.mk1 (fun bm hm=>Mks.ins_all hm x n bf) (fun hw=>by rw[insR_n];exact hw.ins x n bf)).mono fun e w' ⟨he,ht⟩=>⟨⟨_,he⟩,by rw[insR_n] at ht;exact ht⟩
theorem GBa.mdel (h:GBa N w b F R a s) (x y:Int) :
  Calls Tryz.prog 154 #[pAt a.m,.int .i64 x,.int .i64 y] w fun e w'=>(∃ q,e=.returned (.int .i64 q))/\ToA N w b F R a { s with M:=(Mks.delR s.M s.mn x y).m } w':=
 (h.mk1 (fun bm hm=>Mks.del_all hm x y) (fun hw=>by rw[delR_n];exact hw.del x y)).mono fun e w' ⟨he,ht⟩=>⟨⟨_,he⟩,by rw[delR_n] at ht;exact ht⟩
theorem GBa.mmove (h:GBa N w b F R a s) (id x:Int) :
  Calls Tryz.prog 98 #[pAt a.m,.int .i64 id,.int .i64 x] w fun e w'=>e=.returned (.int .i64 (Mks.moveR s.M s.mn id x).err)/\ToA N w b F R a { s with M:=(Mks.moveR s.M s.mn id x).m,mn:=(Mks.moveR s.M s.mn id x).n } w':=
 h.mk1 (fun bm hm=>Mks.move_all hm id x) (fun hw=>hw.move id x)
theorem GBa.madd (h:GBa N w b F R a s) (x:Int) (on:Bool) (hn:s.mn<=1000000000) :
  Calls Tryz.prog 72 #[pAt a.m,.int .i64 x,.bool on] w fun e w'=>e=.returned (.tuple #[.int .i64 (Mks.addR s.M s.mn x on).ret,.int .i64 (Mks.addR s.M s.mn x on).err])/\ToA N w b F R a { s with M:=(Mks.addR s.M s.mn x on).m,mn:=(Mks.addR s.M s.mn x on).n } w':=by
 have hw0:=h.wfM
 have hi:=h.mids.1
 exact h.mk2 (fun bm hm=>Mks.add_all hm x on hw0.n0 hn) (fun hw=>hw.add (fun p hp=>(hi p hp).2) x on)
theorem GBa.mat (h:GBa N w b F R a s) (id:Int) :
  Calls Tryz.prog 79 #[pAt a.m,.int .i64 id] w fun e w'=>e=.returned (.tuple #[.int .i64 (atM s.M id),.bool (lookM s.M id).isSome])/\Below w.heap.size w w':=by
 obtain⟨col,o,k⟩:=h
 obtain⟨bm,h1,h2,h3,h4⟩:=k.mks
 unfold atM
 cases hx:lookM s.M id with
 | none=>exact Mks.at_no h1 hx
 | some v=>exact Mks.at_yes h1 hx
theorem mem_idsIn {M:List (Int × Mks.Mk)} {x y k:Int}:k ∈ idsIn M x y ↔ ∃ v,(k,v) ∈ M/\x<=v.1/\v.1<=y:=by
 unfold idsIn
 simp only[List.mem_map,List.mem_filter,Bool.and_eq_true,decide_eq_true_eq]
 constructor
 ·rintro ⟨⟨i,v⟩,⟨h1,h2,h3⟩,rfl⟩;exact⟨v,h1,h2,h3⟩
 ·rintro ⟨v,h1,h2,h3⟩;exact⟨(k,v),⟨h1,h2,h3⟩,rfl⟩
theorem GBa.min_ (h:GBa N w b F R a s) (x y:Int) :
  Calls Tryz.prog 151 #[pAt a.m,.int .i64 x,.int .i64 y] w fun e w'=>∃ v l,e=.returned v/\l.Nodup/\(∀ k,k ∈ l ↔ k ∈ idsIn s.M x y)/\ROwn Mks.encI 3 1 w.heap.size w' v l/\Below w.heap.size w w':=by
 obtain⟨col,o,k⟩:=h
 obtain⟨bm,h1,h2,h3,h4⟩:=k.mks
 exact(Mks.in_any h1 x y (by have:=h4.len;omega)).mono fun e w' ⟨v,l,he,g1,g2,g3,g4,g5⟩=>⟨v,l,he,g1,fun k=>by rw[g2 k,mem_idsIn],g4,g5⟩
theorem PrsAt.shrink {p:Nat} {v:Value} {L:List PcE} {Q:Nat->Prop} (h:PrsAt w p v L Q):PrsAt w p v L (fun g=>Q g/\g<w.heap.size):=
 ⟨h.blk,h.own,fun x hx=>⟨(h.lst x hx).1,fun g o e=>⟨(h.lst x hx).2.1 g o e,by
  have hne:0<x.ps.length:=List.length_pos_iff.2 (mem_pieces h.ok hx).ne
  exact(h.lst x hx).1.lt hne e⟩,(h.lst x hx).2.2⟩,h.ok,h.vb,fun e=>h.nb e.1,fun k hk e=>h.nv k hk e.1⟩
open Classical in
theorem GBa.pr1 {f:FuncId} {args:Array Value} {ret:Value} {P':List Pc} (h:GBa N w b F R a s)
  (hc:∀ v L Q,PrsAt w a.p v L Q->(∀ g,Q g->g<w.heap.size)->L.map PcE.dat=s.P->Calls Tryz.prog f args w (PrPost w a.p v Q ret P')) (hn:NmOk s.P->NmOk P') :
  Calls Tryz.prog f args w fun e w'=>e=.returned ret/\ToA N w b F R a { s with P:=P' } w':=by
 obtain⟨col,o,k⟩:=h
 obtain⟨v,L,Q,h1,h2,h3,h4,h5,h6⟩:=k.prs
 refine(hc v L Q h1 (fun g hg=>(h5 g hg).2) h2).mono ?_
 rintro e w' ⟨he,v',L',Q',p1,p2,p3,p4,p5⟩
 have hp1:=p1.shrink
 have hcl:ColEq w.heap.size col (fun i=>if i<w.heap.size then col i else if Q' i then 8 else 4):=fun i hi=>if_pos hi
 refine⟨he,GBa.setPrs o k hcl (p3.mono fun i hi=>hi.elim (fun e=>e▸h3) (h4 i)) ⟨v',L',_,hp1,p2,(hcl _ h1.blk.lt).trans h3,fun i hi=>?_,fun g hg=>⟨?_,hg.2⟩,hn h6⟩⟩
 ·rcases Nat.lt_or_ge i w.heap.size with hl|hl
  ·exact(hcl i hl).trans ((p4 i hi).elim (h4 i) (fun e=>by omega))
  ·rw[if_neg (by omega),if_neg (p1.nv i hi)]
 ·rcases Nat.lt_or_ge g w.heap.size with hl|hl
  ·exact(hcl g hl).trans ((p5 g hg.1).elim (fun e=>(h5 g e).1) (fun e=>by omega))
  ·rw[if_neg (by omega),if_pos hg.1]
theorem GBa.pins (h:GBa N w b F R a s) (x n:Int) :
  Calls Tryz.prog 171 #[pAt a.p,.int .i64 x,.int .i64 n] w fun e w'=>(∃ q,e=.returned (.int .i64 q))/\ToA N w b F R a { s with P:=insertedP s.P x n } w':=
 (h.pr1 (ret:=.int .i64 (insertedE s.P x n)) (P':=insertedP s.P x n) (fun v L Q h1 h2 h3=>h3▸pinserted h1 h2 x n) (fun hn=>hn.ins x n)).mono fun e w' ⟨he,ht⟩=>⟨⟨_,he⟩,ht⟩
theorem GBa.pdel (h:GBa N w b F R a s) (x y:Int) :
  Calls Tryz.prog 155 #[pAt a.p,.int .i64 x,.int .i64 y] w fun e w'=>(∃ q,e=.returned (.int .i64 q))/\ToA N w b F R a { s with P:=deletedP s.P x y } w':=
 (h.pr1 (ret:=.int .i64 (deletedE x y)) (P':=deletedP s.P x y) (fun v L Q h1 h2 h3=>h3▸pdeleted h1 h2 x y) (fun hn=>hn.del x y)).mono fun e w' ⟨he,ht⟩=>⟨⟨_,he⟩,ht⟩
theorem GBa.pget (h:GBa N w b F R a s) (x nm:Int) :
  Calls Tryz.prog 86 #[pAt a.p,.int .i64 x,.int .i64 nm] w fun e w'=>e=.returned (getV2 (getP s.P x nm))/\Below w.heap.size w w':=by
 obtain⟨col,o,k⟩:=h
 obtain⟨v,L,Q,h1,h2,h3,h4,h5,h6⟩:=k.prs
 rw[<-h2];exact pGet h1 x nm
theorem GBa.pspans (h:GBa N w b F R a s) (x y:Int) :
  Calls Tryz.prog 113 #[pAt a.p,.int .i64 x,.int .i64 y] w (SpPost w (spansP s.P x y 0)):=by
 obtain⟨col,o,k⟩:=h
 obtain⟨v,L,Q,h1,h2,h3,h4,h5,h6⟩:=k.prs
 rw[<-h2];exact pSpans h1 x y
theorem GBa.pnextOf (h:GBa N w b F R a s) (x nm most:Int) :
  Calls Tryz.prog 132 #[pAt a.p,.int .i64 x,.int .i64 nm,.int .i64 most] w fun e w'=>e=.returned (.int .i64 (nextP (sameOf nm) s.P x most))/\Below w.heap.size w w':=by
 obtain⟨col,o,k⟩:=h
 obtain⟨v,L,Q,h1,h2,h3,h4,h5,h6⟩:=k.prs
 rw[<-h2];exact Go.Proofs.YtkpoodjhjfmfjaaGreatDoor.pnextOf h1 x nm most
theorem GBa.ov1 {f:FuncId} {args:Array Value} {ret:Value} {D':List Ovs.OverD} {nx':Int} (h:GBa N w b F R a s)
  (hc:∀ S,Ovs.OSt w a.o s.pr s.ev s.D s.nx S->Ovs.WfD s.D s.nx->Calls Tryz.prog f args w (Ovs.SPost w a.o s.pr s.ev S ret D' nx')) (hw:Ovs.WfD s.D s.nx->Ovs.WfD D' nx') :
  Calls Tryz.prog f args w fun e w'=>e=.returned ret/\ToA N w b F R a { s with D:=D',nx:=nx' } w':=by
 obtain⟨col,o,k⟩:=h
 obtain⟨h1,h2,h3⟩:=k.ovs
 refine(hc _ h1 h2).mono ?_
 rintro e w' ⟨he,S',g1,g2,g3⟩
 exact⟨he,GBa.setOvs o k g2 ⟨g1.mono (fun i hi=>g3 i hi),hw h2,.inl h3⟩⟩
theorem GBa.oins (h:GBa N w b F R a s) (x n:Int) :
  Calls Tryz.prog 172 #[pAt a.o,.int .i64 x,.int .i64 n] w fun e w'=>(∃ q,e=.returned (.int .i64 q))/\ToA N w b F R a { s with D:=Ovs.insertedD s.D x n } w':=
 (h.ov1 (fun S h1 h2=>Ovs.s_ins h1 h2 x n) (fun hw=>Ovs.wf_ins hw x n)).mono fun e w' ⟨he,ht⟩=>⟨⟨_,he⟩,ht⟩
theorem GBa.odel (h:GBa N w b F R a s) (x y:Int) :
  Calls Tryz.prog 156 #[pAt a.o,.int .i64 x,.int .i64 y] w fun e w'=>(∃ gv q,e=.returned (.tuple #[gv,.int .i64 q]))/\ToA N w b F R a { s with D:=Ovs.delD s.ev x y s.D } w':=by
 obtain⟨col,o,k⟩:=h
 obtain⟨h1,h2,h3⟩:=k.ovs
 refine(Ovs.s_del h1 h2 x y).mono ?_
 rintro e w' ⟨gv,he,hr,S',g1,g2,g3⟩
 exact⟨⟨_,_,he⟩,GBa.setOvs o k g2 ⟨g1.mono (fun i hi=>(g3 i hi).imp id (fun e=>e.1)),Ovs.wf_del h2 _ _ _,.inl h3⟩⟩
theorem GBa.lg1 {f:FuncId} {args:Array Value} {ret:Value} {L':Lg} (h:GBa N w b F R a s) (hc:∀ G:Nat->Prop,LogT w a.l G s.L->Tabs N w->(∀ k,G k->N<=k)->N<=w.heap.size->Calls Tryz.prog f args w fun e w'=>e=.returned ret/\LogP w a.l G L' w') :
  Calls Tryz.prog f args w fun e w'=>e=.returned ret/\ToA N w b F R a { s with L:=L' } w':=by
 obtain⟨col,o,k⟩:=h
 exact(hc _ k.log o.tb (o.cN (by omega) (by omega)) o.sz).mono fun e w' ⟨he,hl,ho⟩=>⟨he,GBa.setLog o k ho hl⟩
theorem GBa.lbound (h:GBa N w b F R a s):Calls Tryz.prog 75 #[pAt a.l] w fun e w'=>e=.returned (.int .i64 0)/\ToA N w b F R a { s with L:=s.L.close } w':=
 h.lg1 (fun G h1 h2 h3 h4=>tbound h1 h2 h3 h4)
theorem GBa.lclear (h:GBa N w b F R a s):Calls Tryz.prog 92 #[pAt a.l] w fun e w'=>e=.returned (.int .i64 0)/\ToA N w b F R a { s with L:=⟨[],[],-1⟩ } w':=
 h.lg1 (fun G h1 h2 h3 h4=>tclear h1)
end
end Go.Proofs.YtkpoodjhjfmfjaaGreatDoor
namespace Go.Proofs.YtkpoodjhjfmfjaaGreatDoor
open Go.RowKit Go.Lib
open Ovs (PropE)
structure Pos (s:St) (B:Nat):Prop where
 pt1:1<=s.pt
 lo1:1<=s.lo
 hi1:1<=s.hi
 pt:s.pt<=B
 lo:s.lo<=B
 hi:s.hi<=B
 mark:s.mark<=B
 X:∀ x ∈ s.X,x.le B
 X1:∀ x ∈ s.X,1<=x.pt/\1<=x.lo/\1<=x.hi
 tick:s.tick<=B
theorem Pos.same {s s':St} {B:Nat} (h:Pos s B) (k:SameB s s'):Pos s' B:=⟨k.pt▸h.pt1,k.lo▸h.lo1,k.hi▸h.hi1,k.pt▸h.pt,k.lo▸h.lo,k.hi▸h.hi,k.mark▸h.mark,k.X▸h.X,k.X▸h.X1,k.tick▸h.tick⟩
theorem Pos.of {s s':St} {B:Nat} (h:Pos s B) (h1:s'.pt=s.pt) (h2:s'.lo=s.lo) (h3:s'.hi=s.hi) (h4:s'.mark=s.mark) (h5:s'.X=s.X) (h6:s'.tick=s.tick):Pos s' B:=⟨h1▸h.pt1,h2▸h.lo1,h3▸h.hi1,h1▸h.pt,h2▸h.lo,h3▸h.hi,h4▸h.mark,h5▸h.X,h5▸h.X1,h6▸h.tick⟩
theorem Exc.le_mono {x:Exc} {A B:Nat} (h:x.le A) (hab:A<=B):x.le B:=⟨Nat.le_trans h.1 hab,Nat.le_trans h.2.1 hab,Nat.le_trans h.2.2.1 hab,Nat.le_trans h.2.2.2 hab⟩
theorem Pos.mono {s:St} {A B:Nat} (h:Pos s A) (hab:A<=B):Pos s B:=⟨h.pt1,h.lo1,h.hi1,Nat.le_trans h.pt hab,Nat.le_trans h.lo hab,Nat.le_trans h.hi hab,Nat.le_trans h.mark hab,fun x hx=>Exc.le_mono (h.X x hx) hab,h.X1,Nat.le_trans h.tick hab⟩
theorem Pos.moves {s:St} {B C:Nat} (h:Pos s B) {fn:Nat->Bool->Nat} (bf:Bool) (h1:∀ p a,1<=p->1<=fn p a) (h2:∀ p a,p<=B->fn p a<=C) (hBC:B<=C):Pos (movesS s fn bf) C:=
 ⟨h1 _ _ h.pt1,h1 _ _ h.lo1,h1 _ _ h.hi1,h2 _ _ h.pt,h2 _ _ h.lo,h2 _ _ h.hi,h2 _ _ h.mark,fun x hx=>by
  obtain⟨y,hy,rfl⟩:=List.mem_map.1 hx
  have:=h.X y hy
  exact⟨h2 _ _ this.1,h2 _ _ this.2.1,h2 _ _ this.2.2.1,h2 _ _ this.2.2.2⟩,fun x hx=>by
  obtain⟨y,hy,rfl⟩:=List.mem_map.1 hx
  have:=h.X1 y hy
  exact⟨h1 _ _ this.1,h1 _ _ this.2.1,h1 _ _ this.2.2⟩,Nat.le_trans h.tick hBC⟩
theorem Pos.ticks {s:St} {B:Nat} (h:Pos s B):Pos s.bump (B+1):=⟨h.pt1,h.lo1,h.hi1,Nat.le_succ_of_le h.pt,Nat.le_succ_of_le h.lo,Nat.le_succ_of_le h.hi,Nat.le_succ_of_le h.mark,fun x hx=>Exc.le_mono (h.X x hx) (by omega),h.X1,Nat.succ_le_succ h.tick⟩
section
variable {w w' w1 : World} {N b n : Nat} {F R : Nat → Prop} {a : Adr} {s s' : St} {c : Chg}
theorem GBa.note (h:GBa N w b F R a s) (hpt:1<=s.pt/\s.pt<=1000000000) (hok:ChgOk c) :
  Calls Tryz.prog 152 #[pAt b,chgV c] w fun e w'=>e=.returned (.tuple #[])/\ToA N w b F R a (noteS s c) w':=by
 have hib:=h.ib
 obtain⟨col,o,k⟩:=h
 have hb6:¬ col b=6:=by rw[k.cb];omega
 refine(note_any (S:=s.bs a) o.tb o.rl k.buf hpt (o.cN (by omega) (by omega)) (o.hN b hib) hb6 k.log hok).mono ?_
 rintro e w' ⟨he,ho,hb,hl⟩
 have hc:=colG_eq (col:=col) w.heap.size 6
 have ho':Only (fun k=>(fun i=>i=1\/i=6) (col k)) w w':=ho.mono fun i hi=>hi.elim (fun e=>.inl (e▸k.cb)) .inr
 have sm:=noteS_same s c
 refine⟨he,o.to (fun i=>i=1\/i=6) (fun i hi=>by omega) hc ho' ⟨by rw[noteS_E];exact hb,k.cb_ hc,?_,?_,?_,?_,?_,?_⟩⟩
 ·rw[sm.cs];exact k.gap_ (C:=fun i=>i=1\/i=6) ho' (by simp) hc
 ·rw[sm.M,sm.mn];exact k.mks_ (C:=fun i=>i=1\/i=6) ho' (by simp) hc
 ·rw[sm.P];exact k.prs_ (C:=fun i=>i=1\/i=6) ho' (by simp) (by simp) hc
 ·rw[sm.pr,sm.ev,sm.D,sm.nx];exact k.ovs_ (C:=fun i=>i=1\/i=6) ho' (by simp) hc
 ·rw[noteS_L s a c];exact hl.mono (colG_grow _ _)
 ·rw[sm.X];exact k.exc_ (C:=fun i=>i=1\/i=6) ho' (by simp) hc
theorem GBa.blt (h:GBa N w b F R a s):b<w.heap.size:=h.buf.lt
theorem GBa.svlt (h:GBa N w b F R a s):∀ k,a.sv.ownBlock=some k->k<w.heap.size:=by obtain⟨col,o,k⟩:=h;exact fun i hi=>k.exc.1.lt hi
theorem GBa.moves {Fn:FuncId} {cp:Array Value} {f:Int->Bool->Int} {fn:Nat->Bool->Nat} (h:GBa N w b F R a s) (hn1:b<n) (hn2:∀ k,a.sv.ownBlock=some k->k<n) (hE:∀ Z:Nat->Prop,(∀ k,Z k->k<n)->EditO w Fn cp f Z)
  (hf:∀(x:Nat) a,x<=1000000000000000->f x a=(fn x a:Nat)) (bf:Bool) (hB:Pos s 1000000000000000) :
  Calls Tryz.prog 157 #[pAt b,.func (.func Fn) #[] cp,.bool bf] w fun e w'=>e=.returned (.tuple #[])/\ToA N w b F R a (movesS s fn bf) w':=by
 obtain⟨col,o,k⟩:=h
 have hXb:∀ i,a.sv.ownBlock=some i->i≠b:=fun i hi e=>by have h7:=k.exc.2.1 i hi;rw[e,k.cb] at h7;omega
 refine(moves_ok (S:=s.bs a) k.buf k.exc.1 k.exc.2.2 hXb (hE _ (fun i hi=>hi.elim (fun e=>e▸hn1) (hn2 i))) hf bf hB.pt hB.lo hB.hi hB.mark hB.X).mono ?_
 rintro e w' ⟨he,ho,hb,hx⟩
 have hc:ColEq w.heap.size col (colG col w.heap.size 0):=colG_eq _ _
 have ho':Only (fun k=>(fun i=>i=1\/i=7) (col k)) w w':=ho.mono fun i hi=>hi.elim (fun e=>.inl (e▸k.cb)) (fun e=>.inr (k.exc.2.1 i e))
 exact⟨he,o.to (fun i=>i=1\/i=7) (fun i hi=>by omega) hc ho' ⟨hb,k.cb_ hc,k.gap_ (C:=fun i=>i=1\/i=7) ho' (by simp) hc,k.mks_ (C:=fun i=>i=1\/i=7) ho' (by simp) hc,k.prs_ (C:=fun i=>i=1\/i=7) ho' (by simp) (by simp) hc,
  k.ovs_ (C:=fun i=>i=1\/i=7) ho' (by simp) hc,k.log_ (C:=fun i=>i=1\/i=7) ho' (by simp) hc,⟨hx,fun i hi=>(hc i (k.exc.1.lt hi)).trans (k.exc.2.1 i hi),by show(s.X.map _).length<=_;rw[List.length_map];exact k.exc.2.2⟩⟩⟩
theorem GBa.ct (h:GBa N w b F R a s):w.cell? ⟨b,9,none⟩=some (pAt a.t):=h.buf.cell (j:=9) rfl
theorem GBa.cm (h:GBa N w b F R a s):w.cell? ⟨b,10,none⟩=some (pAt a.m):=h.buf.cell (j:=10) rfl
theorem GBa.cp (h:GBa N w b F R a s):w.cell? ⟨b,11,none⟩=some (pAt a.p):=h.buf.cell (j:=11) rfl
theorem GBa.co (h:GBa N w b F R a s):w.cell? ⟨b,12,none⟩=some (pAt a.o):=h.buf.cell (j:=12) rfl
theorem GBa.cl (h:GBa N w b F R a s):w.cell? ⟨b,13,none⟩=some (pAt a.l):=h.buf.cell (j:=13) rfl
theorem GBa.ctick (h:GBa N w b F R a s):w.cell? ⟨b,7,none⟩=some (.int .i64 (s.tick:Int)):=h.buf.cell (j:=7) rfl
theorem insCg_ok {p n:Nat} (h1:1<=p) (h2:p+n<=1000000000000):ChgOk (insCg p n):=⟨by simp,fun _=>⟨by simp;omega,by simp;omega⟩,fun _=>⟨by simp;omega,by simp;omega⟩,by simp,by simp⟩
set_option maxRecDepth 100000 in
set_option maxHeartbeats 4000000 in
theorem put_ok (h:GBa N w b F R a s) (hB:Pos s 1000000000) (x:Nat) (hx1:1<=x) (hx2:x<=1000000000) (tx:ByteArray) (hs:tx.size<=262144) (hv:(charsD tx.data.toList).isSome=true) (bf:Bool) :
  Calls Tryz.prog 91 #[pAt b,.int .i64 x,.string tx,.bool bf] w fun r w'=>r=.returned (.tuple #[])/\ToA N w b F R a (putS s x tx bf) w':=by
 have hLn:=runesLen tx w (by omega) h.tabs
 rw[rlenG_chars hv] at hLn
 have hnl:(chrs tx).length<=262144:=by have:=chrs_len tx;omega
 unfold putS
 obtain⟨n,hn⟩:∃ n,n=(chrs tx).length:=⟨_,rfl⟩
 rw[<-hn] at hLn hnl ⊢
 have HLn:=qH hLn
 have H0:=qH h
 have H:=qH (ToA.refl h)
 by_cases h0:n=0
 ·rw[if_pos h0]
  subst h0
  clear hLn h hn hs hv
  go_enter Tryz.func91,Tryz.ntmps91
  go_wp2_with fail
  refine HLn.out.mono ?_
  rintro e w1 ⟨rfl,hb1⟩
  have H1:=qH (H.out.below hb1)
  clear hb1
  go_wp2_with fail
  refine bodyPost_ret (results_none rfl _ _ _) rfl ?_
  exact⟨rfl,H1.out⟩
 ·rw[if_neg h0]
  have d0:((n:Int) == 0)=false:=by simp;omega
  have n0:(n=0)=False:=eq_false h0
  have s1:IntKind.i64.wrap ((x:Int)+(n:Int))=((x+n:Nat):Int):=by rw[IntWalk.i64_in _ (by omega)];omega
  have s2:IntKind.i64.wrap ((s.tick:Int)+1)=((s.tick+1:Nat):Int):=by have:=hB.tick;rw[IntWalk.i64_in _ (by omega)];omega
  have HN:=qH (⟨hn,by omega,hx1,hx2,hs,hv,hB,hnl⟩:n=(chrs tx).length/\0<n/\_/\_/\_/\_/\_/\_)
  have sm:=noteS_same s (insCg x n)
  obtain⟨S1,hS1⟩:∃ z,z=noteS s (insCg x n):=⟨_,rfl⟩
  have HS1:=qH hS1
  rw[<-hS1] at sm ⊢
  have htk:=sm.tick
  have SM:=qH sm
  obtain⟨f2,hf2⟩:∃ z:List Nat->List Nat,z=(fun cs=>insX cs x (chrs tx)):=⟨_,rfl⟩
  rw[<-hf2]
  obtain⟨S2,hS2⟩:∃ z:St,z=S1.onCs f2:=⟨_,rfl⟩
  rw[<-hS2]
  obtain⟨f3,hf3⟩:∃ z:List (Int × Mks.Mk)->Int->List (Int × Mks.Mk),z=(fun M k=>(Mks.insR M k x n bf).m):=⟨_,rfl⟩
  rw[<-hf3]
  obtain⟨S3,hS3⟩:∃ z:St,z=S2.onM f3:=⟨_,rfl⟩
  rw[<-hS3]
  obtain⟨f4,hf4⟩:∃ z:List Pc->List Pc,z=(fun P=>insertedP P x n):=⟨_,rfl⟩
  rw[<-hf4]
  obtain⟨S4,hS4⟩:∃ z:St,z=S3.onP f4:=⟨_,rfl⟩
  rw[<-hS4]
  obtain⟨f5,hf5⟩:∃ z:List Ovs.OverD->List Ovs.OverD,z=(fun D=>Ovs.insertedD D x n):=⟨_,rfl⟩
  rw[<-hf5]
  obtain⟨S5,hS5⟩:∃ z:St,z=S4.onD f5:=⟨_,rfl⟩
  rw[<-hS5]
  have hP5:Pos S5 1000000000:=by
   have:=hB.same sm
   rw[hS5,hS4,hS3,hS2];exact this.of rfl rfl rfl rfl rfl rfl
  have ht5:(movesS S5 (insN x n) bf).tick=s.tick:=by rw[hS5,hS4,hS3,hS2];exact htk
  obtain⟨S6,hS6⟩:∃ z:St,z=movesS S5 (insN x n) bf:=⟨_,rfl⟩
  rw[<-hS6] at ht5 ⊢
  have HS:=qH (⟨by rw[hS2,hf2],by rw[hS3,hf3],by rw[hS4,hf4],by rw[hS5,hf5],hS6,hP5,ht5⟩:S2=S1.onCs (fun cs=>insX cs x (chrs tx))/\S3=S2.onM (fun M k=>(Mks.insR M k x n bf).m)/\S4=S3.onP (fun P=>insertedP P x n)/\S5=S4.onD (fun D=>Ovs.insertedD D x n)/\_/\_/\_)
  clear hLn h hn hs hv hB sm htk hS1 hS2 hS3 hS4 hS5 hS6 hP5 ht5 h0 hnl hx1 hx2 hf2 hf3 hf4 hf5
  go_enter Tryz.func91,Tryz.ntmps91
  go_wp2_with fail
  refine HLn.out.mono ?_
  rintro e w1 ⟨rfl,hb1⟩
  have H1:=qH (H.out.below hb1)
  clear hb1 HLn H
  go_wp2_with fail
  refine(H1.out.gb.note (c:=insCg x n) ⟨HN.out.2.2.2.2.2.2.1.pt1,HN.out.2.2.2.2.2.2.1.pt⟩ (insCg_ok HN.out.2.2.1 (by have:=HN.out;omega))).mono ?_
  rintro e w2 ⟨rfl,ht⟩
  have H2:=qH (show ToA N w b F R a S1 w2 by rw[HS1.out];exact H1.out.trans ht)
  have q9:w2.cell? ⟨b,9,none⟩=some (pAt a.t):=H2.out.gb.ct
  clear ht H1
  go_wp2_with fail
  refine(H2.out.gb.tins tx HN.out.2.2.2.2.1 HN.out.2.2.2.2.2.1 x).mono ?_
  rintro e w3 ⟨⟨q,rfl⟩,ht⟩
  have H3:=qH (show ToA N w b F R a S2 w3 by rw[HS.out.1];exact H2.out.trans ht)
  have q10:w3.cell? ⟨b,10,none⟩=some (pAt a.m):=H3.out.gb.cm
  clear ht H2 q9
  go_wp2_with fail
  refine(H3.out.gb.mins x n bf).mono ?_
  rintro e w4 ⟨⟨q,rfl⟩,ht⟩
  have H4:=qH (show ToA N w b F R a S3 w4 by rw[HS.out.2.1];exact H3.out.trans ht)
  have q11:w4.cell? ⟨b,11,none⟩=some (pAt a.p):=H4.out.gb.cp
  clear ht H3 q10
  go_wp2_with fail
  refine(H4.out.gb.pins x n).mono ?_
  rintro e w5 ⟨⟨q,rfl⟩,ht⟩
  have H5:=qH (show ToA N w b F R a S4 w5 by rw[HS.out.2.2.1];exact H4.out.trans ht)
  have q12:w5.cell? ⟨b,12,none⟩=some (pAt a.o):=H5.out.gb.co
  clear ht H4 q11
  go_wp2_with fail
  refine(H5.out.gb.oins x n).mono ?_
  rintro e w6 ⟨⟨q,rfl⟩,ht⟩
  have H6:=qH (show ToA N w b F R a S5 w6 by rw[HS.out.2.2.2.1];exact H5.out.trans ht)
  clear ht H5 q12
  go_wp2_with fail
  refine(insertedO x n (by omega) (by have:=HN.out;omega) w6).mono ?_
  rintro e w7 ⟨cp,rfl,hb7,hE⟩
  have H7:=qH (H6.out.below hb7)
  have Z7:=qH (⟨H6.out.gb.blt,H6.out.gb.svlt⟩:_/\_)
  have E7:=qH hE
  clear hb7 hE H6
  go_wp2_with fail
  refine(H7.out.gb.moves (fn:=insN x n) Z7.out.1 Z7.out.2 E7.out (fun y ah _=>insF_nat _ _ _ _) bf (HS.out.2.2.2.2.2.1.mono (by omega))).mono ?_
  rintro e w8 ⟨rfl,ht⟩
  have H8:=qH (show ToA N w b F R a S6 w8 by rw[HS.out.2.2.2.2.1];exact H7.out.trans ht)
  have q7:w8.cell? ⟨b,7,none⟩=some (.int .i64 (s.tick:Int)):=HS.out.2.2.2.2.2.2▸H8.out.gb.ctick
  have f7:=H8.out.gb.buf.fz 7
  clear ht H7 E7 Z7
  go_wp2_with fail
  go_end0
  refine⟨rfl,H8.out.trans (H8.out.gb.store _ (j:=7) (by omega) _ ⟨rfl,rfl,rfl,rfl,rfl,rfl,rfl,rfl,rfl,rfl⟩ ?_)⟩
  have h7:(((S6.bump).tick:Nat):Int)=(s.tick:Int)+1:=by show((S6.tick+1:Nat):Int)=_;rw[HS.out.2.2.2.2.2.2];omega
  rw[<-h7];rfl
end
theorem insN_le {a n x B:Nat} {ah:Bool} (h:x<=B):insN a n x ah<=B+n:=by unfold insN;split<;>omega
theorem insN_ge {a n x:Nat} {ah:Bool}:x<=insN a n x ah:=by unfold insN;split<;>omega
theorem delN_le {x y p B:Nat} (h:p<=B):delN x y p<=B:=by unfold delN;(repeat' split)<;>omega
theorem delN_ge {x y p:Nat} (hx:1<=x) (hxy:x<=y) (hp:1<=p):1<=delN x y p:=by unfold delN;(repeat' split)<;>omega
section
variable {s : St} {B : Nat}
theorem Pos.onCs (h:Pos s B) (f):Pos (s.onCs f) B:=h.of rfl rfl rfl rfl rfl rfl
theorem Pos.onM (h:Pos s B) (f):Pos (s.onM f) B:=h.of rfl rfl rfl rfl rfl rfl
theorem Pos.onP (h:Pos s B) (f):Pos (s.onP f) B:=h.of rfl rfl rfl rfl rfl rfl
theorem Pos.onD (h:Pos s B) (f):Pos (s.onD f) B:=h.of rfl rfl rfl rfl rfl rfl
theorem Pos.put (h:Pos s B) (x:Nat) (tx:ByteArray) (bf:Bool):Pos (putS s x tx bf) (B+(chrs tx).length+1):=by
 unfold putS
 split
 ·exact h.mono (by omega)
 ·generalize (chrs tx).length=n
  exact((((((h.same (noteS_same s _)).onCs _).onM _).onP _).onD _).moves (C:=B+n) bf (fun p a hp=>Nat.le_trans hp insN_ge) (fun p a hp=>insN_le hp) (by omega)).ticks
theorem noteD_same (s:St) (x y:Nat):SameB s (noteD s x y):=(noteMs_same s _).trans ((noteSp_same _ _).trans (noteS_same _ _))
theorem Pos.take (h:Pos s B) (x y:Nat) (hx:1<=x) (hxy:x<=y):Pos (takeS s x y) (B+1):=by
 unfold takeS
 split
 ·exact h.mono (by omega)
 ·exact((((((h.same (noteD_same s x y)).onCs _).onM _).onP _).onD _).moves (C:=B) false (fun p a hp=>delN_ge hx hxy hp) (fun p a hp=>delN_le hp) (Nat.le_refl _)).ticks
end
end Go.Proofs.YtkpoodjhjfmfjaaGreatDoor
namespace Go.Proofs.YtkpoodjhjfmfjaaGreatDoor
open Go.RowKit Go.Shelf
theorem infoInt:(Tryz.prog.info? 3).map (fun i=>(i.zero,i.size,i.bytes))=some (some (.int .i64 0),1,8):=by kernel_rfl
set_option maxRecDepth 100000 in
set_option maxHeartbeats 2000000 in
theorem appendSeq_of {w:World} {M:List Int} {g:Nat} {lb:Array Value} (hl:M.length<=1000000) (eg:∀ args w,(callFunc g args).run Tryz.prog w=.ok (.enter g args) w)
  (hseq:SeqStopsK Fence.wide 4 Tryz.prog g lb (fun x:Int=>#[Value.int .i64 x]) (Below w.heap.size) (fun ys=>ys=M) (fun pre=>pre <+: M) M.length (w.alloc (.cells #[.slice none 0 0] 78))) :
  CallsIn Fence.wide 5 Tryz.prog 262 #[.slice none 0 0,.func (.func g) #[] lb] w fun e W'=>∃ v,e=.returned v/\W'.ownsRow w.heap.size 3 1 v M.length (M.map (Value.int .i64))/\Below w.heap.size w W':=by
 obtain⟨i0,hi,hz0,hz1,hz2⟩:=info_parts infoInt
 refine callsIn_of_wp_marks Tryz.func262 rfl trivial ?_ rfl
 simp only[Tryz.ntmps262,List.size_toArray,List.length_cons,List.length_nil,Nat.reduceAdd,Nat.reduceSub,Array.replicate_succ,Array.replicate_zero,List.push_toArray,List.append_toArray,List.nil_append,List.cons_append]
 gi_wp2
 have bO:=Boxed.new w 78 (.slice none 0 0)
 have hB0:Below w.heap.size w (w.alloc (.cells #[.slice none 0 0] 78)):=(Below.refl _ w).alloc (Nat.le_refl _) _
 refine wpIn_rangeFunc_ownG rfl (by omega) (gf:=g) (lb:=lb) rfl trivial eg
  hseq belowK_t (belowK_b (by simp)) (Below.refl _ _) (fun _=>rfl)
  (fun pre W=>(∃ v,Boxed W w.heap.size 78 v/\W.ownsRow w.heap.size 3 1 v pre.length (pre.map (Value.int .i64))/\(v=.slice none 0 0 ↔ pre=[]))/\Below w.heap.size w W)
  (fun _ _ _=>False)
  (OwnFrom.and (Own.from (holdsRow_own w.heap.size w.heap.size 78 3 1 (fun pre:List Int=>pre.length) (fun pre=>pre.map (Value.int .i64)) (fun pre v=>v=.slice none 0 0 ↔ pre=[])) _) (ownFrom_below (Nat.le_refl _) (by simp)))
  (fun _ _ _ _ _ hs _ _=>hs)
  ⟨⟨_,bO,World.ownsRow_nil _ _ _ _,by simp⟩,hB0⟩
  ?fr ?assign ?body ?done ?stop
 case assign=>
  intro l x W K hK
  gi_wp2_with gi_round_op_a
  exact hK
 case body=>
  rintro l pre x W ⟨⟨v,hv,hrow,hnil⟩,hB⟩ hlt
  have hc:=hv.cell
  gi_wp2_with (first
  |(gi_at_builtin;refine wpListIn_append_own _ rfl _ _ 78 rfl w.heap.size 3 i0 (.int .i64 0) 1 8 Tryz.underlying78 hi hz0 hz1 hz2 rfl (by decide) _ _ _ rfl (hrow.alloc _) ⟨W.heap.size,0,none⟩ 1 1 [.int .i64 x] rfl rfl (cell_one_new _ _ _) (by simp[Value.oneCell']) (by unfold maxLen;omega) (by omega) (by have:=hB.size;simp;omega) ?_;intro v' w1 hown' hgrow _;obtain⟨g',cap',rfl⟩:=ownsRow_succ hown';obtain⟨hv1,hv2,hr2,hk2,hb2⟩:=hv.appended (by decide) hrow hB.size (Nat.le_refl _) hown' hgrow;have hc1:=hv1.cell;have hf1:=hv1.frozen;go_frame)
  | gi_round_op_a)
  exact⟨hk2.from _,hb2,⟨_,hv2,by simpa using hr2,by simp⟩,hB.trans hb2⟩
 case done=>
  rintro D ys W hD rfl ⟨⟨v,hv,hrow,hnil⟩,hB⟩ hK
  have hc:=hv.cell
  gi_wp2
  refine⟨by simp,.inl ⟨_,_,rfl,run_takeDeferred hK,?_⟩⟩
  exact⟨_,results_tmp rfl _ _ _,v,rfl,ownsRow_putObj hrow _ hK rfl,hB.trans (belowK_b (w:=w) (Nat.le_refl _) W D _ _ (by simp at hD;omega) hK rfl rfl)⟩
 case stop=>
  rintro D c pre W _ _ h _
  exact h.elim
end Go.Proofs.YtkpoodjhjfmfjaaGreatDoor
namespace Go.Proofs.YtkpoodjhjfmfjaaGreatDoor
open Go.RowKit Go.Shelf
open Mks (encI eltI)
attribute [local go_sem] Oper.semAt_some
set_option maxRecDepth 100000 in
set_option maxHeartbeats 2000000 in
theorem vals_in (n l n₀ Bs:Nat) (M:List Int) (A:Option Addr) (c:Nat) (hl:M.length<=1000000) (hs:Bs<n₀) (J Jx:List Int->World->Prop)
  (hY:∀ pre (x:Int) W,J pre W->pre.length<M.length->YieldAt Fence.wide (n - 1) Tryz.prog l #[.int .i64 x] W fun e W'=>
   (e=.returned (.bool true)/\J (pre++[x]) W'/\Below n₀ W W')\/(e=.returned (.bool false)/\Jx (pre++[x]) W'))
  (W:World) (hn0:n₀<=W.heap.size)
  (c0:W.cell? ⟨Bs,0,none⟩=some (.slice A M.length c)) (hps:∀ W',Below n₀ W W'->RSl encI W' A M) (h0:J [] W) :
  CallsIn Fence.wide n Tryz.prog 214 #[.func (.yield l) #[] #[],.pointer (some ⟨Bs,0,none⟩)] W fun e W'=>(∃ v,e=.returned v) /\
   ((∃ ys,ys=M/\J ys W')\/(∃ pre,pre <+: M/\Jx pre W')):=by
 have HPS:=qH hps
 clear hps
 refine callsIn_of_wp Tryz.func214 rfl trivial ?_ rfl
 simp only[Tryz.ntmps214,List.size_toArray,List.length_cons,List.length_nil,Nat.reduceAdd,Nat.reduceSub,Array.replicate_succ,Array.replicate_zero,List.push_toArray,List.append_toArray,List.nil_append,List.cons_append]
 gi_wp2
 gi_loopw [7] (fun i wr=>∃(k:Nat),k<=M.length/\i=.int .i64 (k:Int)/\J (M.take k) wr/\Below n₀ W wr) (fun i _=>M.length -(intOf i).toNat)
 case atStart=>exact⟨0,Nat.zero_le _,by simp,h0,Below.refl _ _⟩
 case round=>
  obtain⟨k,hk,rfl,hJs,hnx⟩:=hrel
  by_cases hlt:k<M.length
  ·obtain⟨z,hz⟩:∃ z,M[k]?=some z:=⟨_,List.getElem?_eq_getElem hlt⟩
   obtain⟨g,o,rfl,hg,hcg⟩:=(HPS.out wr hnx).at_ eltI hz
   have k0:=hcg 0 _ rfl
   simp only[Nat.mul_one,Nat.add_zero] at k0
   have htk:M.take (k+1)=M.take k++[z]:=by rw[List.take_add_one,hz];rfl
   have HTK:=qH htk
   have hYk:=hY (M.take k) z wr hJs (by simp;omega)
   have d1:(k:Int)<(M.length:Int):=by omega
   have HN:=qH hnx
   clear htk hz hcg c0 hY hJs hnx h0
   obtain⟨fn,tmps,assign,body,hy,hR⟩:=hYk
   gi_wp2_with fail
   refine⟨(fun h=>by cases h),hR.mono ?_⟩
   clear hR hy
   rintro e w4 (⟨rfl,hJ4,hk4⟩|⟨rfl,hJx4⟩)
   ·gi_wp2
    go_roundw
    case rel=>exact⟨k+1,by omega,by simp,by rw[HTK.out];exact hJ4,HN.out.trans hk4⟩
    case measure=>simp[intOf];omega
   ·gi_wp2
    refine bodyPost_ret (results_none rfl _ _ _) rfl ?_
    exact⟨⟨_,rfl⟩,.inr ⟨_,by rw[<-HTK.out];exact List.take_prefix _ _,hJx4⟩⟩
  ·obtain rfl:k=M.length:=by omega
   rw[List.take_length] at hJs
   have HJ:=qH hJs
   clear hJs hY h0
   gi_wp2
   go_end0
   exact⟨⟨_,rfl⟩,.inl ⟨_,rfl,HJ.out⟩⟩
theorem vals_stops (n n₀ Bs:Nat) (M:List Int) (A:Option Addr) (c:Nat) (hl:M.length<=1000000) (hs:Bs<n₀) (w:World) (hn0:n₀<=w.heap.size)
  (c0:w.cell? ⟨Bs,0,none⟩=some (.slice A M.length c)) (hps:∀ W',Below n₀ w W'->RSl encI W' A M) :
  SeqStopsK Fence.wide n Tryz.prog 214 #[.pointer (some ⟨Bs,0,none⟩)] (fun x:Int=>#[Value.int .i64 x]) (Below n₀)
   (fun ys=>ys=M) (fun pre=>pre <+: M) M.length w:=fun l J Jx W hW hJ _ hY h0=>by
 have hsz:=hW.size
 have a:∀ {b o:Nat},b<n₀->W.cell? ⟨b,o,none⟩=w.cell? ⟨b,o,none⟩:=fun {b o} hb=>hW.cell (p:=⟨b,o,none⟩) (Nat.lt_of_lt_of_le hb hn0)
 exact vals_in n l n₀ Bs M A c hl hs J Jx hY W (by omega) ((a hs).trans c0) (fun W' hb=>hps W' ((hW.mono hn0).trans hb)) h0
set_option maxHeartbeats 400000 in
theorem values_any (A:Option Addr) (n c:Nat) (w:World):Calls Tryz.prog 150 #[.slice A n c] w fun e w'=>e=.returned (.func (.func 214) #[] #[.pointer (some ⟨w.heap.size,0,none⟩)])/\w'=w.alloc (.cells #[.slice A n c] 78):=by
 go_enter Tryz.func150,Tryz.ntmps150
 go_wp2
 go_ret
 exact⟨rfl,rfl⟩
theorem append_v {w:World} {M:List Int} {A:Option Addr} {c Bs:Nat} (hl:M.length<=1000000) (c0:w.cell? ⟨Bs,0,none⟩=some (.slice A M.length c)) (hps:RSl encI w A M) :
  CallsIn Fence.wide 5 Tryz.prog 262 #[.slice none 0 0,.func (.func 214) #[] #[.pointer (some ⟨Bs,0,none⟩)]] w fun e W'=>∃ v,e=.returned v/\W'.ownsRow w.heap.size 3 1 v M.length (M.map (Value.int .i64))/\Below w.heap.size w W':=by
 have hBs:=lt_of_cell c0
 have hB0:Below w.heap.size w (w.alloc (.cells #[.slice none 0 0] 78)):=(Below.refl _ w).alloc (Nat.le_refl _) _
 exact appendSeq_of hl (enters_of Tryz.func214 (by kernel_rfl) rfl) (vals_stops 4 w.heap.size Bs M A c hl hBs _ (by simp) ((hB0.cell (p:=⟨Bs,0,none⟩) hBs).trans c0) (fun W' hb=>hps.up (hB0.trans hb)))
set_option maxRecDepth 100000 in
set_option maxHeartbeats 2000000 in
theorem sorted_v {w:World} {M:List Int} {A:Option Addr} {c Bs:Nat} (hl:M.length<=1000000) (c0:w.cell? ⟨Bs,0,none⟩=some (.slice A M.length c)) (hps:RSl encI w A M) :
  Calls Tryz.prog 149 #[.func (.func 214) #[] #[.pointer (some ⟨Bs,0,none⟩)]] w fun e w'=>∃ v,e=.returned v/\ROwn encI 3 1 w.heap.size w' v (M.mergeSort fun x y=>decide (x<=y))/\Below w.heap.size w w':=by
 have HC:=qH (show Calls Tryz.prog 212 #[.func (.func 214) #[] #[.pointer (some ⟨Bs,0,none⟩)]] w fun e W'=>∃ v,e=.returned v/\W'.ownsRow w.heap.size 3 1 v M.length (M.map (Value.int .i64))/\Below w.heap.size w W' by
  have HA:=qH (callsIn_wide.1 (append_v hl c0 hps))
  go_enter Tryz.func212,Tryz.ntmps212
  go_wp2_with fail
  refine HA.out.mono ?_
  rintro e w1 ⟨v,rfl,hr,hb⟩
  have HR:=qH (⟨hr,hb⟩:_/\_)
  clear hr hb
  go_wp2_with fail
  go_ret
  exact⟨v,rfl,HR.out⟩)
 go_enter Tryz.func149,Tryz.ntmps149
 go_wp2_with fail
 refine HC.out.mono ?_
 rintro e W ⟨v,rfl,hrow,hb⟩
 rcases hrow.2 with ⟨rfl,hz⟩|⟨gb,cap,cur,rfl,hbase,hgb,r1,r2,r3,r4⟩
 ·have hss:M=[]:=List.eq_nil_of_length_eq_zero hz
  subst hss
  have HR:=qH (⟨hrow,hb⟩:_/\_)
  clear hrow hb
  go_wp2_with fail
  refine((callsIn_wide (n:=5)).1 ((Mks.sortsA 5).2 none 0 W)).mono ?_
  rintro e w' ⟨rfl,rfl⟩
  go_wp2_with fail
  go_ret
  refine⟨_,rfl,?_,HR.out.2⟩
  unfold ROwn
  rw[Mks.cellsI]
  simpa using HR.out.1
 ·have hH:Sort.Holds encZ W gb 0 M.toArray:=holds_of_block_i hgb (by simpa using r4)
  have hgl:gb<W.heap.size:=(Array.getElem?_eq_some_iff.1 hgb).1
  have cS:=(Mks.sortsA 5).1 gb 0 cap M W hH hgl (by omega)
  have HS:=qH ((callsIn_wide (n:=5)).1 cS)
  have HR:=qH (⟨hrow,hb,hbase,hgb,r1,r2,r3,r4⟩:_/\_/\_/\_/\_/\_/\_/\_)
  clear hrow hb hbase hgb r1 r2 r3 r4 cS hH
  go_wp2_with fail
  refine HS.out.mono ?_
  rintro e w' ⟨rfl,nn,os,rfl⟩
  go_wp2_with fail
  go_ret
  obtain⟨hrow,hb,hbase,hgb,r1,r2,r3,r4⟩:=HR.out
  refine⟨_,rfl,?_,hb.grown (grownBy_sorted_i _) hb.size (fun j hj=>by cases hj;exact hbase)⟩
  unfold ROwn
  rw[Mks.cellsI,List.length_mergeSort]
  exact ownsRow_sorted_i (List.length_mergeSort _) hbase hgb r1 r2 r3
end Go.Proofs.YtkpoodjhjfmfjaaGreatDoor
namespace Go.Proofs.YtkpoodjhjfmfjaaGreatDoor
open Go.RowKit Go.Lib
open Ovs (PropE encP eltP)
open Mks (encI eltI)
theorem sort_ids {M:List (Int × Mks.Mk)} {n x y:Int} {l:List Int} (hw:WfM M n) (hn:l.Nodup) (hm:∀ k,k ∈ l ↔ k ∈ idsIn M x y):(l.mergeSort fun x y=>decide (x<=y))=idsIn M x y:=by
 have ha:(idsIn M x y).Pairwise (·<·):=by
  unfold idsIn
  exact hw.asc.sublist (List.filter_sublist.map _)
 have hp:l.Perm (idsIn M x y):=(List.perm_ext_iff_of_nodup hn (ha.imp fun h e=>by omega)).2 hm
 exact Mks.sort_asc hp ha
theorem noteMs_succ (s:St) (ids:List Int) {i:Nat} {id:Int} (h:ids[i]?=some id):noteMs s (ids.take (i+1))=noteS (noteMs s (ids.take i)) (markCg id (atM (noteMs s (ids.take i)).M id)):=by
 unfold noteMs;rw[List.take_add_one,h];simp
theorem noteSp_succ (s:St) (l:List Pc) {i:Nat} {p:Pc} (h:l[i]?=some p):noteSp s (l.take (i+1))=notePs (noteSp s (l.take i)) p:=by
 unfold noteSp;rw[List.take_add_one,h];simp
def notePq (s:St) (f t:Int) (l:List PropE):St:=l.foldl (fun s q=>noteS s (propCg f t q.name (some (q.kind,q.n)))) s
theorem notePq_succ (s:St) (f t:Int) (l:List PropE) {i:Nat} {q:PropE} (h:l[i]?=some q):notePq s f t (l.take (i+1))=noteS (notePq s f t (l.take i)) (propCg f t q.name (some (q.kind,q.n))):=by
 unfold notePq;rw[List.take_add_one,h];simp
theorem notePq_same (s:St) (f t:Int) (l:List PropE):SameB s (notePq s f t l):=foldl_same (fun s q=>noteS_same s _) l s
theorem markCg_ok {id a:Int} (h:1<=a/\a<=1099511627776):ChgOk (markCg id a):=⟨by simp,fun _=>h,by simp,by simp,by simp⟩
theorem propCg_ok {f t nm:Int} {o:Option (Int × Int)} (h1:1<=f) (h2:f<=t) (h3:t<=1099511627776) (hn:0<=nm):ChgOk (propCg f t nm o):=⟨by simp,fun _=>⟨h1,by simp only;omega⟩,fun _=>⟨h2,h3⟩,fun _=>hn,by simp⟩
theorem subX_isN {cs:List Nat} (h:∀ c ∈ cs,isN c) (x y:Int):∀ c ∈ subX cs x y,isN c:=fun c hc=>by
 unfold subX at hc
 split at hc
 ·refine h c ?_
  unfold subL at hc
  first|exact List.mem_of_mem_drop (List.mem_of_mem_take hc)|exact List.mem_of_mem_take (List.mem_of_mem_drop hc)
 ·simp at hc
theorem subX_len (cs:List Nat) (x y:Int):(subX cs x y).length<=cs.length:=by
 unfold subX
 split
 ·unfold subL;simp;omega
 ·simp
theorem encS_le (cs:List Nat):(encS cs).size<=4*cs.length:=by
 have:=runesBytes_size_le (cs.map Int.ofNat)
 rwa [List.length_map] at this
theorem spans_in {P:List Pc} (hk:PcsOk P) (hn:NmOk P) {x y:Int} {p:Pc} (hp:p ∈ spansP P x y 0):1<=p.f/\p.f<=p.t/\p.t<=1099511627776/\∀ q ∈ p.ps,0<=q.name:=by
 have h4:=hn.spans x y p hp
 unfold spansP at hp
 split at hp
 ·obtain⟨z,hz,he⟩:=List.mem_filterMap.1 hp
  have k:=hk.ok z hz
  split at he
  ·rename_i hlt
   cases he
   have:=k.f1;have:=k.ft;have:=k.t1
   refine⟨?_,?_,?_,h4⟩<;>simp only<;>omega
  ·cases he
 ·simp at hp
section
variable {w w' w1 : World} {N b n : Nat} {F R : Nat → Prop} {a : Adr} {s s' : St} {c : Chg}
theorem delCg_ok (h:GBa N w b F R a s) {x:Nat} {y:Int} (h1:1<=x) (h2:x<=1000000000000):ChgOk (delCg x (encS (subX s.cs x y))):=by
 have hcs:=chrs_encS (subX_isN h.isN x y)
 refine⟨by simp,fun _=>⟨by simp;omega,by simp;omega⟩,fun e=>by simp at e,by simp,fun _=>⟨hcs.2,?_⟩⟩
 have h3:=encS_le (subX s.cs x y)
 have h4:=subX_len s.cs x y
 have h5:=h.len
 show(encS (subX s.cs x y)).size<=262144
 omega
set_option maxRecDepth 100000 in
set_option maxHeartbeats 4000000 in
theorem take_ok (h:GBa N w b F R a s) (hB:Pos s 1000000000) (x y:Nat) (hx1:1<=x) (hxy:x<=y) (hy:y<=1000000000000) :
  Calls Tryz.prog 78 #[pAt b,.int .i64 x,.int .i64 y] w fun r w'=>r=.returned (.tuple #[])/\ToA N w b F R a (takeS s x y) w':=by
 unfold takeS
 by_cases h0:x=y
 ·rw[if_pos h0]
  subst h0
  have H:=qH (ToA.refl h)
  clear h hB hx1 hxy hy
  go_enter Tryz.func78,Tryz.ntmps78
  go_wp2_with fail
  refine bodyPost_ret (results_none rfl _ _ _) rfl ?_
  exact⟨rfl,H.out⟩
 ·rw[if_neg h0]
  have d0:((x:Int) ==(y:Int))=false:=by simp;omega
  have s2:IntKind.i64.wrap ((s.tick:Int)+1)=((s.tick+1:Nat):Int):=by have:=hB.tick;rw[IntWalk.i64_in _ (by omega)];omega
  have q10:w.cell? ⟨b,10,none⟩=some (pAt a.m):=h.cm
  have hws:=h.wfM
  have hids:∀ id ∈ idsIn s.M x y,1<=atM s.M id/\atM s.M id<=1099511627776:=by
   intro id hid
   obtain⟨v,hv,_⟩:=mem_idsIn.1 hid
   have hk:=h.mids.2
   unfold atM
   cases hl:lookM s.M id with
   | none=>exact absurd rfl (lookM_none.1 hl _ hv)
   | some u=>exact hk _ (lookM_mem hl)
  have hlen:(idsIn s.M x y).length<=1000000:=by
   have:=hws.len
   have h2:(idsIn s.M x y).length<=s.M.length:=by unfold idsIn;rw[List.length_map];exact List.length_filter_le _ _
   omega
  have HIn:=qH (h.min_ x y)
  have hsp:=fun p=>@spans_in s.P h.pcsOk h.nmOk x y p
  have HN:=qH (⟨hx1,hxy,hy,hB,hws,hids,hlen,hsp⟩:_/\_/\_/\_/\_/\_/\_/\_)
  have H0:=qH (ToA.refl h)
  clear hB hx1 hxy hy hws hids hlen hsp
  unfold noteD
  obtain⟨S1,hS1⟩:∃ z,z=noteMs s (idsIn s.M x y):=⟨_,rfl⟩
  have m1:=noteMs_same s (idsIn s.M x y)
  rw[<-hS1] at m1 ⊢
  obtain⟨PS,hPS⟩:∃ z,z=spansP s.P x y 0:=⟨_,rfl⟩
  rw[<-hPS]
  obtain⟨S2,hS2⟩:∃ z,z=noteSp S1 PS:=⟨_,rfl⟩
  have m2:=m1.trans (noteSp_same S1 PS)
  rw[<-hS2] at m2 ⊢
  obtain⟨dc,hdc⟩:∃ z,z=delCg x (encS (subX s.cs x y)):=⟨_,rfl⟩
  rw[<-hdc]
  obtain⟨S3,hS3⟩:∃ z,z=noteS S2 dc:=⟨_,rfl⟩
  have m3:=m2.trans (noteS_same S2 dc)
  rw[<-hS3] at m3 ⊢
  obtain⟨f4,hf4⟩:∃ z:List Nat->List Nat,z=(fun cs=>delX cs x y):=⟨_,rfl⟩
  rw[<-hf4]
  obtain⟨S4,hS4⟩:∃ z:St,z=S3.onCs f4:=⟨_,rfl⟩
  rw[<-hS4]
  obtain⟨f5,hf5⟩:∃ z:List (Int × Mks.Mk)->Int->List (Int × Mks.Mk),z=(fun M n=>(Mks.delR M n x y).m):=⟨_,rfl⟩
  rw[<-hf5]
  obtain⟨S5,hS5⟩:∃ z:St,z=S4.onM f5:=⟨_,rfl⟩
  rw[<-hS5]
  obtain⟨f6,hf6⟩:∃ z:List Pc->List Pc,z=(fun P=>deletedP P x y):=⟨_,rfl⟩
  rw[<-hf6]
  obtain⟨S6,hS6⟩:∃ z:St,z=S5.onP f6:=⟨_,rfl⟩
  rw[<-hS6]
  obtain⟨f7,hf7⟩:∃ z:List Ovs.OverD->List Ovs.OverD,z=(fun D=>Ovs.delD s.ev x y D):=⟨_,rfl⟩
  rw[<-hf7]
  obtain⟨S7,hS7⟩:∃ z:St,z=S6.onD f7:=⟨_,rfl⟩
  rw[<-hS7]
  have hP7:Pos S7 1000000000:=by
   have:=HN.out.2.2.2.1.same m3
   rw[hS7,hS6,hS5,hS4];exact this.of rfl rfl rfl rfl rfl rfl
  have ht7:(movesS S7 (fun p _=>delN x y p) false).tick=s.tick:=by rw[hS7,hS6,hS5,hS4];exact m3.tick
  have hev:S6.ev=s.ev:=by rw[hS6,hS5,hS4];exact m3.ev
  obtain⟨S8,hS8⟩:∃ z:St,z=movesS S7 (fun p _=>delN x y p) false:=⟨_,rfl⟩
  rw[<-hS8] at ht7 ⊢
  have HS:=qH (⟨by rw[hS4,hf4],by rw[hS5,hf5],by rw[hS6,hf6],by rw[hS7,hf7,hev],hS8,hP7,ht7⟩:S4=S3.onCs (fun cs=>delX cs x y)/\S5=S4.onM (fun M n=>(Mks.delR M n x y).m)/\S6=S5.onP (fun P=>deletedP P x y)/\S7=S6.onD (fun D=>Ovs.delD S6.ev x y D)/\_/\_/\_)
  have HM:=qH (⟨m1,m2,m3,hS1,hS2,hS3,hPS,hdc⟩:_/\_/\_/\_/\_/\_/\_/\_)
  clear h h0 m1 m2 m3 hS1 hS2 hS3 hS4 hS5 hS6 hS7 hS8 hP7 ht7 hPS hdc hf4 hf5 hf6 hf7 hev
  go_enter Tryz.func78,Tryz.ntmps78
  go_wp2_with fail
  refine HIn.out.mono ?_
  rintro e wa ⟨va,l,rfl,hnd,hmem,hown,hba⟩
  obtain⟨Al,cl,rfl,hl1,hl2,hrl⟩:=hown.shape eltI
  have hsrt:=sort_ids HN.out.2.2.2.2.1 hnd hmem
  have hll:l.length<=1000000:=by
   have h1:=congrArg List.length hsrt
   rw[List.length_mergeSort] at h1
   have:=HN.out.2.2.2.2.2.2.1;omega
  have HL:=qH (⟨hsrt,hll,hrl,hba⟩:_/\_/\_/\_)
  clear hnd hmem hown hl1 hl2 hrl hba hsrt hll q10 HIn
  go_wp2_with fail
  refine(values_any Al l.length cl wa).mono ?_
  rintro e wb ⟨rfl,rfl⟩
  have hcl:(wa.alloc (.cells #[.slice Al l.length cl] 78)).cell? ⟨wa.heap.size,0,none⟩=some (.slice Al l.length cl):=by simp
  have HSo:=qH (sorted_v HL.out.2.1 hcl (HL.out.2.2.1.up (below1 wa _)))
  clear hcl
  go_wp2_with fail
  refine HSo.out.mono ?_
  rintro e wc ⟨vs,rfl,hro,hbc⟩
  rw[HL.out.1] at hro
  have hB1:Below w.heap.size w wc:=up2 HL.out.2.2.2 (up2 (below1 wa _) hbc)
  have hro:=hro.low (B':=w.heap.size) (Nat.le_trans HL.out.2.2.2.size (below1 wa _).size)
  obtain⟨ids,hids⟩:∃ ids,ids=idsIn s.M x y:=⟨_,rfl⟩
  rw[<-hids] at hro
  obtain⟨As,cs_,rfl,hs1,hs2,hrs⟩:=hro.shape eltI
  have HO:=qH (⟨hro,hB1,hids⟩:_/\_/\_)
  have hil:ids.length<=1000000:=by rw[hids];exact HN.out.2.2.2.2.2.2.1
  have HG:=qH (ToA.refl (H0.out.rebase hB1))
  clear hro hB1 hs1 hs2 hrs hids hbc HSo HL
  go_wp2_with fail
  go_loopw [29] (fun va wr=>∃ i:Nat,i<=ids.length/\va=.int .i64 (i:Int)/\ToA N wc b (owned F w.heap.size w.heap.size) (owned R w.heap.size w.heap.size) a (noteMs s (ids.take i)) wr) (fun va _=>ids.length -(intOf va).toNat)
  case atStart=>exact⟨0,by omega,rfl,HG.out⟩
  case round=>
   obtain⟨i,hi,rfl,hg⟩:=hrel
   obtain⟨wz,rfl⟩:∃ x,x=wr:=⟨_,rfl⟩
   by_cases hlt:i<ids.length
   ·obtain⟨id,hid⟩:∃ id,ids[i]?=some id:=⟨_,List.getElem?_eq_getElem hlt⟩
    have hkp:∀ g,Value.ownBlock (.slice As ids.length cs_)=some g->wz.heap[g]?=wc.heap[g]?:=fun g hg'=>hg.2.block g (HO.out.1.lt hg') (fun e=>by have:=HO.out.1.base hg';have:=e.2;omega)
    obtain⟨As',cs',hsl,_,_,hrz⟩:=(HO.out.1.kept hkp).shape eltI
    obtain⟨rfl,_,rfl⟩:=Value.slice.inj hsl
    obtain⟨g,o,rfl,hgl,hcg⟩:=hrz.at_ eltI hid
    have k0:=hcg 0 _ rfl
    simp only[Nat.mul_one,Nat.add_zero] at k0
    have d1:(i:Int)<ids.length:=by omega
    have e1:IntKind.i64.wrap ((i:Int)+1)=((i+1:Nat):Int):=by rw[IntWalk.i64_in _ (by omega)];omega
    have hstep:=noteMs_succ s ids hid
    have sm:=noteMs_same s (ids.take i)
    obtain⟨Si,hSi⟩:∃ z,z=noteMs s (ids.take i):=⟨_,rfl⟩
    rw[<-hSi] at hg hstep sm
    have hat:1<=atM Si.M id/\atM Si.M id<=1099511627776:=by rw[sm.M];exact HN.out.2.2.2.2.2.1 id (HO.out.2.2▸List.mem_of_getElem? hid)
    have HR:=qH (⟨hg,hstep,sm,hat⟩:_/\_/\_/\_)
    have q10:wz.cell? ⟨b,10,none⟩=some (pAt a.m):=hg.gb.cm
    clear hg hstep sm hat hcg hrz hkp hsl hid hSi
    go_wp2_with fail
    refine(HR.out.1.gb.mat id).mono ?_
    rintro e w1 ⟨rfl,hb1⟩
    have H1:=qH (HR.out.1.below hb1)
    clear hb1
    go_wp2_with fail
    refine(H1.out.gb.note (c:=markCg id (atM Si.M id)) ⟨(HN.out.2.2.2.1.same HR.out.2.2.1).pt1,(HN.out.2.2.2.1.same HR.out.2.2.1).pt⟩ (markCg_ok HR.out.2.2.2)).mono ?_
    rintro e w2 ⟨rfl,ht⟩
    have H2:=qH (H1.out.trans ht)
    clear ht
    go_wp2_with fail
    go_roundw
    case rel=>exact⟨i+1,by omega,by first|rfl|go_num,HR.out.2.1▸H2.out⟩
    case measure=>simp[intOf];omega
   ·obtain rfl:i=ids.length:=by omega
    rw[List.take_length,HO.out.2.2,<-HM.out.2.2.2.1] at hg
    have hg1:=H0.out.after HO.out.2.1 hg
    have H1:=qH hg1
    have hsp0:=hg1.gb.pspans x y
    rw[HM.out.1.P,<-HM.out.2.2.2.2.2.2.1] at hsp0
    have HSp:=qH hsp0
    have q11:wz.cell? ⟨b,11,none⟩=some (pAt a.p):=hg1.gb.cp
    have hPl:PS.length<=1000000:=by
     have h3:=hg1.gb.pcsOk.len
     rw[HM.out.1.P] at h3
     have h2:(spansP s.P x y 0).length<=s.P.length:=by unfold spansP;split;exact List.length_filterMap_le _ _;simp
     rw[HM.out.2.2.2.2.2.2.1];omega
    clear hg hg1 hlt HG hsp0
    go_wp2_with fail
    refine HSp.out.mono ?_
    rintro e wd ⟨vd,Md,rfl,hsp,hdat,hbd⟩
    obtain⟨Ad,cd,rfl,_,_,hrd⟩:=hsp.own.shape eltSpn
    have HG:=qH (ToA.refl (H1.out.rebase hbd))
    have hML:Md.length=PS.length:=by rw[<-hdat,List.length_map]
    have HD:=qH (⟨hsp,hdat,hbd,hPl,hML⟩:_/\_/\_/\_/\_)
    clear hsp hdat hbd hrd HSp q11 hPl hML
    go_wp2_with fail
    go_loopw [56] (fun va wr=>∃ i:Nat,i<=Md.length/\va=.int .i64 (i:Int)/\ToA N wd b (owned F w.heap.size wz.heap.size) (owned R w.heap.size wz.heap.size) a (noteSp S1 (PS.take i)) wr) (fun va _=>Md.length -(intOf va).toNat)
    case atStart=>exact⟨0,by omega,rfl,HG.out⟩
    case round=>
     obtain⟨i,hi,rfl,hg⟩:=hrel
     obtain⟨wy,rfl⟩:∃ x,x=wr:=⟨_,rfl⟩
     by_cases hlt:i<Md.length
     ·obtain⟨p,hp⟩:∃ p,Md[i]?=some p:=⟨_,List.getElem?_eq_getElem hlt⟩
      have hPx:PS[i]?=some p.dat:=by rw[<-HD.out.2.1,List.getElem?_map,hp];rfl
      have hkp:∀ g,Value.ownBlock (.slice Ad Md.length cd)=some g->wy.heap[g]?=wd.heap[g]?:=fun g hg'=>hg.2.block g (HD.out.1.own.lt hg') (fun e=>by have:=HD.out.1.own.base hg';have:=e.2;omega)
      obtain⟨Ad',cd',hsl,_,_,hrz⟩:=(HD.out.1.own.kept hkp).shape eltSpn
      obtain⟨rfl,_,rfl⟩:=Value.slice.inj hsl
      obtain⟨g,o,rfl,hgl,hcg⟩:=hrz.at_ eltSpn hp
      have k0:=hcg 0 _ rfl
      have k1:=hcg 1 _ rfl
      have k2:=hcg 2 _ rfl
      simp only[Nat.add_zero] at k0
      rw[<-Nat.add_assoc] at k1 k2
      have hl:=HD.out.1.lst p (List.mem_of_getElem? hp)
      have hlp:RSl encP wy p.A p.ps:=fun h0=>by
       obtain⟨g2,o2,e2,hg2,hc2⟩:=hl.1 h0
       have hb2:=(hl.2.2.2 h0 g2 o2 e2).1
       exact⟨g2,o2,e2,Nat.lt_of_lt_of_le hg2 hg.2.size,fun j u hu=>(World.cell?_of_block (w:=wd) (a:=⟨g2,o2+j,none⟩) (hg.2.block g2 hg2 (fun e=>by have:=e.2;omega))).trans (hc2 j u hu)⟩
      have hok:=HN.out.2.2.2.2.2.2.2 p.dat (HM.out.2.2.2.2.2.2.1▸List.mem_of_getElem? hPx)
      have d1:(i:Int)<Md.length:=by omega
      have e1:IntKind.i64.wrap ((i:Int)+1)=((i+1:Nat):Int):=by have:=HD.out.2.2.2;rw[IntWalk.i64_in _ (by omega)];omega
      have hstep:=noteSp_succ S1 PS hPx
      have sm:=HM.out.1.trans (noteSp_same S1 (PS.take i))
      obtain⟨Si,hSi⟩:∃ z,z=noteSp S1 (PS.take i):=⟨_,rfl⟩
      rw[<-hSi] at hg hstep sm
      have hlA:0<p.ps.length->∀ g o,p.A=some ⟨g,o,none⟩->wz.heap.size<=g/\g<wd.heap.size:=fun h0 g2 o2 e2=>⟨(hl.2.2.2 h0 g2 o2 e2).1,hl.1.lt h0 e2⟩
      have HR:=qH (⟨hg,hstep,sm,hlp,hok,hlt,hl.2.1,hlA⟩:_/\_/\_/\_/\_/\_/\_/\_)
      clear hg hstep sm hcg hrz hkp hsl hp hPx hl hlp hok hlt hSi hlA
      obtain⟨bx,hbx⟩:∃ z:Obj,z=.cells #[.int .i64 p.f,.int .i64 p.t,.slice p.A p.ps.length p.c] 65:=⟨_,rfl⟩
      have HG2:=qH (ToA.refl (HR.out.1.rebase (below1 wy bx)))
      have hk0:=Blk.made wy 65 #[.int .i64 p.f,.int .i64 p.t,.slice p.A p.ps.length p.c]
      rw[<-hbx] at hk0
      have HK:=qH (⟨hk0,hbx⟩:_/\_)
      clear hk0 hbx
      go_wp2_with fail
      rw[<-HK.out.2]
      have hzx:(wy.alloc bx).heap.size=wy.heap.size+1:=by simp
      have HZX:=qH hzx
      clear hzx
      obtain⟨wx,hwx⟩:∃ z,z=wy.alloc bx:=⟨_,rfl⟩
      rw[<-hwx] at HG2 HK HZX ⊢
      have HWX:=qH hwx
      clear hwx
      go_loopw [63] (fun va wr=>∃ j:Nat,j<=p.ps.length/\va=.int .i64 (j:Int)/\ToA N wx b (owned (owned F w.heap.size wz.heap.size) wd.heap.size wy.heap.size) (owned (owned R w.heap.size wz.heap.size) wd.heap.size wy.heap.size) a (notePq Si p.f p.t (p.ps.take j)) wr) (fun va _=>p.ps.length -(intOf va).toNat)
      case atStart=>exact⟨0,by omega,rfl,HG2.out⟩
      case round=>
       obtain⟨j,hj,rfl,hg⟩:=hrel
       obtain⟨wv,rfl⟩:∃ x,x=wr:=⟨_,rfl⟩
       have hkw:wv.heap[wy.heap.size]?=wx.heap[wy.heap.size]?:=hg.2.block wy.heap.size (by have:=HZX.out;omega) (fun e=>by have:=e.2;omega)
       have kb:=HK.out.1.kept hkw
       have t0:=kb.cell (j:=0) rfl
       have t1:=kb.cell (j:=1) rfl
       have t0':=fun o=>cell_up t0 (below1 wv o)
       have t1':=fun o=>cell_up t1 (below1 wv o)
       by_cases hlt:j<p.ps.length
       ·obtain⟨q,hq⟩:∃ q,p.ps[j]?=some q:=⟨_,List.getElem?_eq_getElem hlt⟩
        obtain⟨gq,oq,hAq,hgq,hcq⟩:=HR.out.2.2.2.1.at_ eltP hq
        have hbb:gq<wx.heap.size:=by have:=HZX.out;omega
        have hlA:=HR.out.2.2.2.2.2.2.2 (by omega) gq oq hAq
        have hxq:∀ z u,(encP q)[z]?=some u->wv.cell? ⟨gq,oq+(j*3+z),none⟩=some u:=fun z u hu=>by
         have h1:=hcq z u hu
         have h2:wx.heap[gq]?=wy.heap[gq]?:=by rw[HWX.out];exact(below1 wy bx).block gq hgq
         have h3:=hg.2.block gq hbb (fun e=>e.1.elim (fun e=>by have:=e.2;omega) (fun e=>by omega))
         exact(World.cell?_of_block (w:=wy) (a:=⟨gq,oq+(j*3+z),none⟩) (h3.trans h2)).trans h1
        have k0:=hxq 0 _ rfl
        have k1:=hxq 1 _ rfl
        have k2:=hxq 2 _ rfl
        simp only[Nat.add_zero] at k0
        rw[<-Nat.add_assoc] at k1 k2
        have hok:=HR.out.2.2.2.2.1
        have d1:(j:Int)<p.ps.length:=by omega
        have e1:IntKind.i64.wrap ((j:Int)+1)=((j+1:Nat):Int):=by have:=HR.out.2.2.2.2.2.2.1;rw[IntWalk.i64_in _ (by omega)];omega
        have hck:ChgOk (propCg p.f p.t q.name (some (q.kind,q.n))):=propCg_ok hok.1 hok.2.1 hok.2.2.1 (hok.2.2.2 q (List.mem_of_getElem? hq))
        have hstep:=notePq_succ Si p.f p.t p.ps hq
        have sm:=HR.out.2.2.1.trans (notePq_same Si p.f p.t (p.ps.take j))
        obtain⟨Sj,hSj⟩:∃ z,z=notePq Si p.f p.t (p.ps.take j):=⟨_,rfl⟩
        rw[<-hSj] at hg hstep sm
        have HJ:=qH (⟨hg,hstep,sm,hck,hlt⟩:_/\_/\_/\_/\_)
        clear hg hstep sm hck hcq hxq hq hSj hok hlA hlt hkw kb
        rw[hAq]
        go_wp2_with fail
        have H1:=qH (fun o=>HJ.out.1.below (below1 wv o))
        refine((H1.out _).gb.note (c:=propCg p.f p.t q.name (some (q.kind,q.n))) ⟨(HN.out.2.2.2.1.same HJ.out.2.2.1).pt1,(HN.out.2.2.2.1.same HJ.out.2.2.1).pt⟩ HJ.out.2.2.2.1).mono ?_
        rintro e w2 ⟨rfl,ht⟩
        have H2:=qH ((H1.out _).trans ht)
        clear ht
        go_wp2_with fail
        go_roundw
        case rel=>exact⟨j+1,by have:=HJ.out.2.2.2.2;omega,by first|rfl|go_num,HJ.out.2.1▸H2.out⟩
        case measure=>have:=HJ.out.2.2.2.2;simp[intOf];omega
       ·obtain rfl:j=p.ps.length:=by omega
        rw[List.take_length] at hg
        have hn:notePq Si p.f p.t p.ps=noteSp S1 (PS.take (i+1)):=by rw[HR.out.2.1];rfl
        rw[hn] at hg
        rw[HWX.out] at hg
        have H3:=qH (HR.out.1.after (below1 wy bx) hg)
        clear hg hn hlt hkw kb t0 t1 t0' t1'
        go_wp2_with fail
        go_roundw
        case rel=>exact⟨i+1,by have:=HR.out.2.2.2.2.2.1;omega,by first|rfl|go_num,H3.out⟩
        case measure=>have:=HR.out.2.2.2.2.2.1;simp[intOf];omega
     ·obtain rfl:i=Md.length:=by omega
      rw[show PS.take Md.length=PS by rw[HD.out.2.2.2.2,List.take_length],<-HM.out.2.2.2.2.1] at hg
      have H2:=qH (H1.out.after HD.out.2.2.1 hg)
      have q9:wy.cell? ⟨b,9,none⟩=some (pAt a.t):=H2.out.gb.ct
      clear hg hlt HD HG H1
      go_wp2_with fail
      refine(H2.out.gb.tslice x y).mono ?_
      rintro e w1 ⟨⟨q,rfl,_⟩,hb1⟩
      have H3:=qH (H2.out.below hb1)
      have hcsq:=HM.out.2.1.cs
      have hdc:=delCg_ok (y:=(y:Int)) H2.out.gb HN.out.1 (by have:=HN.out.2.1;have:=HN.out.2.2.1;omega)
      rw[hcsq] at hdc ⊢
      rw[<-HM.out.2.2.2.2.2.2.2] at hdc
      have HDC:=qH hdc
      clear hb1 q9 H2 hcsq hdc
      go_wp2_with fail
      refine(H3.out.gb.note (c:=delCg x (encS (subX s.cs x y))) ⟨(HN.out.2.2.2.1.same HM.out.2.1).pt1,(HN.out.2.2.2.1.same HM.out.2.1).pt⟩ (HM.out.2.2.2.2.2.2.2▸HDC.out)).mono ?_
      rintro e w2 ⟨rfl,ht⟩
      have H4:=qH (show ToA N w b F R a S3 w2 by rw[HM.out.2.2.2.2.2.1,HM.out.2.2.2.2.2.2.2];exact H3.out.trans ht)
      have q9:w2.cell? ⟨b,9,none⟩=some (pAt a.t):=H4.out.gb.ct
      clear ht H3
      go_wp2_with fail
      refine(H4.out.gb.tdel x y).mono ?_
      rintro e w3 ⟨⟨q,rfl⟩,ht⟩
      have H5:=qH (show ToA N w b F R a S4 w3 by rw[HS.out.1];exact H4.out.trans ht)
      have q10:w3.cell? ⟨b,10,none⟩=some (pAt a.m):=H5.out.gb.cm
      clear ht H4 q9
      go_wp2_with fail
      refine(H5.out.gb.mdel x y).mono ?_
      rintro e w4 ⟨⟨q,rfl⟩,ht⟩
      have H6:=qH (show ToA N w b F R a S5 w4 by rw[HS.out.2.1];exact H5.out.trans ht)
      have q11:w4.cell? ⟨b,11,none⟩=some (pAt a.p):=H6.out.gb.cp
      clear ht H5 q10
      go_wp2_with fail
      refine(H6.out.gb.pdel x y).mono ?_
      rintro e w5 ⟨⟨q,rfl⟩,ht⟩
      have H7:=qH (show ToA N w b F R a S6 w5 by rw[HS.out.2.2.1];exact H6.out.trans ht)
      have q12:w5.cell? ⟨b,12,none⟩=some (pAt a.o):=H7.out.gb.co
      clear ht H6 q11
      go_wp2_with fail
      refine(H7.out.gb.odel x y).mono ?_
      rintro e w6 ⟨⟨gv,q,rfl⟩,ht⟩
      have H8:=qH (show ToA N w b F R a S7 w6 by rw[HS.out.2.2.2.1];exact H7.out.trans ht)
      clear ht H7 q12
      go_wp2_with fail
      refine(deletedO x y (by omega) (by have:=HN.out;omega) (by have:=HN.out;omega) w6).mono ?_
      rintro e w7 ⟨cp,rfl,hb7,hE⟩
      have H9:=qH (H8.out.below hb7)
      have Z7:=qH (⟨H8.out.gb.blt,H8.out.gb.svlt⟩:_/\_)
      have E7:=qH hE
      clear hb7 hE H8
      go_wp2_with fail
      refine(H9.out.gb.moves (fn:=fun p _=>delN x y p) Z7.out.1 Z7.out.2 E7.out (fun p ah _=>delF_nat x y p HN.out.2.1 ah) false (HS.out.2.2.2.2.2.1.mono (by omega))).mono ?_
      rintro e w8 ⟨rfl,ht⟩
      have H10:=qH (show ToA N w b F R a S8 w8 by rw[HS.out.2.2.2.2.1];exact H9.out.trans ht)
      have q7:w8.cell? ⟨b,7,none⟩=some (.int .i64 (s.tick:Int)):=HS.out.2.2.2.2.2.2▸H10.out.gb.ctick
      have f7:=H10.out.gb.buf.fz 7
      clear ht H9 E7 Z7
      go_wp2_with fail
      go_end0
      refine⟨rfl,H10.out.trans (H10.out.gb.store _ (j:=7) (by omega) _ ⟨rfl,rfl,rfl,rfl,rfl,rfl,rfl,rfl,rfl,rfl⟩ ?_)⟩
      have h7:(((S8.bump).tick:Nat):Int)=(s.tick:Int)+1:=by show((S8.tick+1:Nat):Int)=_;rw[HS.out.2.2.2.2.2.2];omega
      rw[<-h7];rfl
end
end Go.Proofs.YtkpoodjhjfmfjaaGreatDoor
