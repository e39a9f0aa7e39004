/- A part of the proof of BufferNames: package buffer and its parts. -/
import Derived.Test.YtkpoodjhjfmfjaaGreatDoorZ02
set_option linter.unusedVariables false
set_option linter.unusedSimpArgs false
namespace Go.Proofs.YtkpoodjhjfmfjaaGreatDoor
open Go.RowKit
open Ovs (PropE encP eltP SortedP)
section
variable {w w' : World} {N0 : Nat} {v : Value} {L : List PcE} {R : Nat → Prop} {A : Option Addr}
def foldI (from_ tq:Int) (g:List PropE->List PropE) (L:List PcE) (i:Nat):List Pc × Int:=((L.map PcE.dat).take i).foldl (stepP from_ tq g) ([],from_)
theorem foldI_succ {from_ tq:Int} {g:List PropE->List PropE} {L:List PcE} {i:Nat} {x:PcE} (h:L[i]?=some x):foldI from_ tq g L (i+1)=stepP from_ tq g (foldI from_ tq g L i) x.dat:=by
 unfold foldI
 rw[List.take_add_one,dat_get h]
 simp
theorem foldI_ok {from_ tq:Int} {g:List PropE->List PropE} {L:List PcE} (hp:(L.map PcE.dat).Pairwise (fun x y=>x.t<=y.f)) (hk:∀ x ∈ L.map PcE.dat,PcK 64 x) (hg:KeepsP 64 65 g) (hft:from_<=tq) (h1:1<=from_) (ht:tq<=65537) (i:Nat) (hi:i<=L.length) :
  ∃ c,ChgI 65 from_ tq (foldI from_ tq g L i) c/\c<=65537/\∀ x,L[i]?=some x->c<=x.f:=by
 have hsub:((L.map PcE.dat).take i).Pairwise (fun x y=>x.t<=y.f):=hp.sublist (List.take_sublist _ _)
 obtain⟨c,h2,_,h4⟩:=foldP_ok (m:=64) (m':=65) (lo:=1) hg (by omega) hft h1 ht (by omega) ((L.map PcE.dat).take i) ([],from_) 0 ⟨Upto.nil _ _,by dsimp only;omega⟩ (by intro x hx;simp at hx) hsub (fun x hx=>hk x (List.mem_of_mem_take hx)) (fun x hx=>⟨by have:=(hk x (List.mem_of_mem_take hx)).f1;omega,(hk x (List.mem_of_mem_take hx)).f1⟩)
 refine⟨c,h2,?_,fun x hx=>?_⟩
 ·rcases h4 with rfl|⟨x,hx,rfl⟩
  ·omega
  ·exact(hk x (List.mem_of_mem_take hx)).t1
 ·have hxk:=hk _ (List.mem_of_getElem? (dat_get hx))
  rcases h4 with rfl|⟨y,hy,rfl⟩
  ·have:=hxk.f1;have e:x.dat.f=x.f:=rfl;omega
  ·obtain⟨j,hj,hy⟩:=mem_take_get hy
   exact pw_get hp hy (dat_get hx) hj
theorem Upto.small {m:Nat} {l:List Pc} {c:Int} (h:Upto m l c) (hc:c<=65537):l.length<=65536:=(h.mono hc).len
theorem addP_len (l:List Pc) (f t:Int) (ps:List PropE):(addP l f t ps).length<=l.length+1:=by
 unfold addP
 split
 ·omega
 ·split
  ·split
   ·rename_i k hk _
    have:=getLast_split hk
    have h2:=congrArg List.length this
    simp only[List.length_append,List.length_cons,List.length_nil] at h2 ⊢
    omega
   ·simp
  ·simp
theorem fillP_len (g:List PropE->List PropE) (s:List Pc × Int) (e:Int):(fillP g s e).1.length<=s.1.length+1:=by
 unfold fillP;split
 ·exact addP_len _ _ _ _
 ·omega
set_option maxRecDepth 100000 in
set_option maxHeartbeats 16000000 in
theorem pchanged {F:FuncId} {caps:Array Value} {g:List PropE->List PropE} (hF:PFun w F caps g) (hFE:Ovs.Enters F) (hg:KeepsP 64 65 g) (h:RSl encPc w A L) (hL:∀ x ∈ L,RSl encP w x.A x.ps/\(∀ g o,x.A=some ⟨g,o,none⟩->R g)/\x.ps.length<=x.c)
  (hp:(L.map PcE.dat).Pairwise (fun x y=>x.t<=y.f)) (hk:∀ x ∈ L.map PcE.dat,PcK 64 x) (hR:∀ g,R g->g<w.heap.size) (c:Nat) (from_ tq:Int) (hft:from_<=tq) (h1:1<=from_) (ht:tq<=65537) (hl:L.length<=65536) :
  Calls Tryz.prog 251 #[.slice A L.length c,.int .i64 from_,.int .i64 tq,.func (.func F) #[] caps] w fun e w'=>
   ∃ v' L',e=.returned v'/\OutOk w' (w.heap.size+3) v' L' R/\L'.map PcE.dat=changedP (L.map PcE.dat) from_ tq g/\Below w.heap.size w w':=by
 have hb1:=below1 w (.cells #[.func (.func F) #[] caps] 195)
 have hk1:=Blk.made w 195 #[.func (.func F) #[] caps]
 have hz1:(w.alloc (.cells #[.func (.func F) #[] caps] 195)).heap.size=w.heap.size+1:=by simp
 have hb2:=below1 (w.alloc (.cells #[.func (.func F) #[] caps] 195)) (.cells #[.slice none 0 0] 187)
 have hk2:=Blk.made (w.alloc (.cells #[.func (.func F) #[] caps] 195)) 187 #[.slice none 0 0]
 have hz2:((w.alloc (.cells #[.func (.func F) #[] caps] 195)).alloc (.cells #[.slice none 0 0] 187)).heap.size=w.heap.size+2:=by simp
 have hb3:=below1 ((w.alloc (.cells #[.func (.func F) #[] caps] 195)).alloc (.cells #[.slice none 0 0] 187)) (.cells #[.int .i64 from_] 3)
 have hk3:=Blk.made ((w.alloc (.cells #[.func (.func F) #[] caps] 195)).alloc (.cells #[.slice none 0 0] 187)) 3 #[.int .i64 from_]
 have hz3:(((w.alloc (.cells #[.func (.func F) #[] caps] 195)).alloc (.cells #[.slice none 0 0] 187)).alloc (.cells #[.int .i64 from_] 3)).heap.size=w.heap.size+3:=by simp
 rw[hz1] at hk2
 rw[hz2] at hk3
 have hbW:=up2 (up2 hb1 hb2) hb3
 have hch:ChgB (((w.alloc (.cells #[.func (.func F) #[] caps] 195)).alloc (.cells #[.slice none 0 0] 187)).alloc (.cells #[.int .i64 from_] 3)) w.heap.size F caps (.slice none 0 0) [] from_ R:=
  ⟨(hk1.up hb2).up hb3,hk2.up hb3,hk3,OutOk.nil _ _ _,by omega⟩
 have HC:=qH (⟨hbW,hch⟩:_/\_)
 have HF:=qH (⟨hF,hFE,hg,hR,hL,hp,hk⟩:_/\_/\_/\_/\_/\_/\_)
 have HN:=qH (⟨hft,h1,ht⟩:_/\_/\_)
 have HS:=qH h
 have hin:∀(args:Array Value) (w:World),(callFunc F args).run Tryz.prog w=.ok (.enter F args) w:=hFE
 clear hb1 hk1 hz1 hb2 hk2 hz2 hb3 hk3 hz3 hbW hch hF hFE hg hR hL hp hk h hft h1 ht
 go_enter Tryz.func251,Tryz.ntmps251
 go_wp2_with fail
 generalize ((w.alloc (.cells #[.func (.func F) #[] caps] 195)).alloc (.cells #[.slice none 0 0] 187)).alloc (.cells #[.int .i64 from_] 3)=W at *
 go_loopw [21] (fun va wr=>∃(i:Nat) (v:Value) (M:List PcE),i<=L.length/\va=.int .i64 i/\ChgB wr w.heap.size F caps v M (foldI from_ tq g L i).2 R/\M.map PcE.dat=(foldI from_ tq g L i).1/\Below w.heap.size w wr) (fun va _=>L.length -(intOf va).toNat)
 case atStart=>exact⟨0,_,[],by omega,rfl,HC.out.2,rfl,HC.out.1⟩
 case round=>
  obtain⟨i,v,M,hi,rfl,hch,hdat,hbr⟩:=hrel
  have CH:=qH hch
  have DA:=qH hdat
  have BR:=qH hbr
  have hfo:=foldI_ok HF.out.2.2.2.2.2.1 HF.out.2.2.2.2.2.2 HF.out.2.2.1 HN.out.1 HN.out.2.1 HN.out.2.2 i hi
  have FO:=qH hfo
  clear hfo
  by_cases hlt:i<L.length
  ·obtain⟨⟨pf,pt,pA,pc,pp⟩,hx⟩:∃ x,L[i]?=some x:=⟨_,List.getElem?_eq_getElem hlt⟩
   obtain⟨gg,o,rfl,hgg,hc⟩:=(HS.out.up hbr).at_ eltPc hx
   have e0:=hc 0 _ rfl
   have e1:=hc 1 _ rfl
   have e2:=hc 2 _ rfl
   simp only[<-Nat.add_assoc,Nat.add_zero] at e0 e1 e2
   have d0:decide ((i:Int)<L.length)=true:=decide_eq_true (by omega)
   have lt1:(i:Int)<L.length:=by omega
   have d01:(i<L.length)=True:=eq_true hlt
   have HX:=qH hx
   have hxm:=HF.out.2.2.2.2.1 _ (List.mem_of_getElem? hx)
   have hxk:=HF.out.2.2.2.2.2.2 _ (List.mem_of_getElem? (dat_get hx))
   have XM:=qH (⟨hxm,hxk⟩:_/\_)
   obtain⟨Av,cv,rfl,_,_,_⟩:=hch.out.own.shape eltPc
   have hb6:=below1 wr (.cells #[.int .i64 pf,.int .i64 pt,.slice pA pp.length pc] 190)
   have hk6:=Blk.made wr 190 #[.int .i64 pf,.int .i64 pt,.slice pA pp.length pc]
   have c6:=(hch.up hb6).ko.cell (j:=0) rfl
   have k0:=hk6.cell (j:=0) rfl
   have k1:=hk6.cell (j:=1) rfl
   have k2:=hk6.cell (j:=2) rfl
   have hb6':=up2 hbr hb6
   have C6:=qH (hch.up hb6)
   have HB6:=qH (⟨hb6,hk6,hb6'⟩:_/\_/\_)
   have hnp:w.heap.size+3<=wr.heap.size:=hch.sz
   have HNP:=qH hnp
   obtain⟨s0,hs0⟩:∃ s,s=foldI from_ tq g L i:=⟨_,rfl⟩
   rw[<-hs0] at C6 DA FO
   have hML:M.length<=65536:=by
    obtain⟨cc,hcc,hc2,_⟩:=FO.out
    have:=hcc.u.small hc2
    rw[<-DA.out] at this;simpa using this
   have HML:=qH hML
   have S0:=qH hs0
   have hstep:foldI from_ tq g L (i+1)=stepP from_ tq g s0 ⟨pf,pt,pp⟩:=by rw[hs0];exact foldI_succ hx
   have ST:=qH hstep
   have hpA:RSl encP (wr.alloc (.cells #[.int .i64 pf,.int .i64 pt,.slice pA pp.length pc] 190)) pA pp:=hxm.1.up hb6'
   have hadd:=padd C6.out.out.own C6.out.sz (by omega) (fun x hx=>⟨(C6.out.out.lst x hx).1.1,by have:=(C6.out.out.lst x hx).1.2.1;omega⟩) hpA (by have:=hxk.len;show pp.length<=1000;have e:(⟨pf,pt,pA,pc,pp⟩:PcE).dat.ps=pp:=rfl;rw[e] at this;omega) pc pf
   have AD:=qH hadd
   have PA:=qH hpA
   clear hc hx hxm hxk hb6 hk6 hb6' hch hdat hbr hnp hs0 hML hstep hpA hadd hlt
   have hlt2:=XM.out.2.ft
   have hlt3:pf<pt:=hlt2
   have hft3:=HN.out.1
   clear hlt2
   have AD:=fun z=>qH (AD.out z)
   by_cases hA:from_<pt
   ·by_cases hB:pf<from_
    ·by_cases hC:tq<pt
     ·by_cases hD:from_<tq
      ·skip
       have x0:decide (from_<pt)=true:=decide_eq_true (by omega)
       have y0:(from_<pt)=True:=eq_true (by omega)
       have x1:decide (pf<from_)=true:=decide_eq_true (by omega)
       have y1:(pf<from_)=True:=eq_true (by omega)
       have x2:decide (tq<pt)=true:=decide_eq_true (by omega)
       have y2:(tq<pt)=True:=eq_true (by omega)
       have x3:decide (from_<tq)=true:=decide_eq_true (by omega)
       have y3:(from_<tq)=True:=eq_true (by omega)
       have x4:decide (pf<tq)=true:=decide_eq_true (by omega)
       have y4:(pf<tq)=True:=eq_true (by omega)
       have C0:=C6
       have K0:=qH HB6.out.2.1
       have V0:=qH (show ∀ k,(Value.slice Av M.length cv).ownBlock=some k->k=wr.heap.size->False from fun k e e2=>by have:=CH.out.out.own.lt e;omega)
       have B0:=qH HB6.out.2.2
       have L0:=qH (show M.length<=65536+0 by have:=HML.out;omega)
       go_wp2_with fail
       refine(AD from_).out.mono ?_
       rintro r w1 hp1
       obtain⟨v1,M1,rfl,hout,hdat,ho,hnv⟩:=C0.out.out.add (fun g hg=>by have:=HF.out.2.2.2.1 g hg;omega) C0.out.sz PA.out (fun hp g o e=>⟨.inl (XM.out.1.2.1 g o e),fun e2=>by have:=C0.out.out.own.base e2;have:=HF.out.2.2.2.1 g (XM.out.1.2.1 g o e);omega⟩) (by have:=XM.out.2.len;show pp.length<=65;have e:(⟨pf,pt,pA,pc,pp⟩:PcE).dat.ps=pp:=rfl;rw[e] at this;omega) XM.out.1.2.2 hp1
       obtain⟨A1,c1,rfl,_,_,_⟩:=hout.own.shape eltPc
       have hk:=K0.out.only ho (fun e=>V0.out _ e rfl)
       have hc:=C0.out.put ho hout HF.out.2.2.2.1
       have m1:=(C0.out.ko.only ho (fun e=>by have:=C0.out.out.own.base e;omega)).fz 0
       have n1:=(C0.out.ko.only ho (fun e=>by have:=C0.out.out.own.base e;omega)).cell (j:=0) rfl
       have hb:Below w.heap.size w w1:=B0.out.trans ⟨ho.os,ho.tape,ho.output,ho.size,fun i hi=>ho.block i (by have:=B0.out.size;omega) (fun e=>by have:=C0.out.out.own.base e;omega)⟩
       have K1a:=qH (hk.only ((Only.refl (fun k=>k=w.heap.size+1) w1).setCell (p:=⟨w.heap.size+1,0,none⟩) rfl (.slice A1 M1.length c1)) (by have:=HNP.out;omega))
       have C1a:=qH hc
       have D1:=qH hdat
       have V1:=qH (show ∀ k,(Value.slice A1 M1.length c1).ownBlock=some k->k=wr.heap.size->False from fun k e e2=>(hnv k e).elim (fun e=>V0.out k e e2) (fun e=>by have:=K0.out.lt;omega))
       have B1a:=qH (hb.setCell (p:=⟨w.heap.size+1,0,none⟩) (show w.heap.size<=w.heap.size+1 by omega) (.slice A1 M1.length c1))
       have L1:=qH (show M1.length<=65536+1 by have h1:=addP_len (M.map PcE.dat) (pf) (from_) (pp);have h2:=congrArg List.length hdat;have h3:=L0.out;simp only[List.length_map] at h1 h2;omega)
       clear hp1 hout hdat ho hnv hk hc hb
       go_wp2_with fail
       generalize w1.setCell ⟨w.heap.size+1,0,none⟩ (.slice A1 M1.length c1)=W1 at *
       have C1:=C1a
       have K1:=K1a
       have B1:=B1a
       clear C1a K1a B1a
       have k0:=K1.out.cell (j:=0) rfl
       have k1:=K1.out.cell (j:=1) rfl
       have k2:=K1.out.cell (j:=2) rfl
       have c6:=C1.out.ko.cell (j:=0) rfl
       clear e0 e1 e2
       go_region
       have hbd1:Below W1.heap.size W1 W1.drew:=(Below.refl _ W1).drew
       have C1:=qH (C1.out.up hbd1)
       have K1:=qH (K1.out.up hbd1)
       have B1:=qH (B1.out.trans (hbd1.mono B1.out.size))
       clear hbd1 k0 k1 k2 c6
       generalize W1.drew=W1d at *
       have k0:=K1.out.cell (j:=0) rfl
       have k1:=K1.out.cell (j:=1) rfl
       have k2:=K1.out.cell (j:=2) rfl
       have c6:=C1.out.ko.cell (j:=0) rfl
       go_wp2_with fail
       refine(pfill HF.out.1 HF.out.2.1 rfl B1.out C1.out HF.out.2.2.2.1 (HF.out.2.2.1.len [] (by simp)) (by have:=L1.out;omega) from_).mono ?_
       rintro r w2 ⟨rfl,v2,M2,hc,hd,ho,hnv⟩
       obtain⟨A2,c2,rfl,_,_,_⟩:=hc.out.own.shape eltPc
       have K2:=qH (K1.out.only ho (fun e=>by have h1:=HNP.out;rcases e with e|e|e;omega;omega;exact V1.out _ e rfl))
       have V2:=qH (show ∀ k,(Value.slice A2 M2.length c2).ownBlock=some k->k=wr.heap.size->False from fun k e e2=>(hnv k e).elim (fun e=>V1.out k e e2) (fun e=>by have:=K1.out.lt;omega))
       have B2:=qH (show Below w.heap.size w w2 from B1.out.trans ⟨ho.os,ho.tape,ho.output,ho.size,fun i hi=>ho.block i (by have:=B1.out.size;omega) (fun e=>by rcases e with e|e|e;omega;omega;have:=C1.out.out.own.base e;omega)⟩)
       have L2:=qH (show M2.length<=65536+2 by have h1:=fillP_len g (M1.map PcE.dat,s0.2) (from_);have h2:=congrArg List.length hd;have h3:=L1.out;simp only[List.length_map] at h1 h2;omega)
       have C2:=qH hc
       have D2:=qH hd
       clear hc hd ho hnv
       have k0:=K2.out.cell (j:=0) rfl
       have k1:=K2.out.cell (j:=1) rfl
       have k2:=K2.out.cell (j:=2) rfl
       have c6:=C2.out.ko.cell (j:=0) rfl
       have f6:=C2.out.kf.cell (j:=0) rfl
       have hT:∀ k,k<w.heap.size+3->¬((Value.slice A2 M2.length c2).ownBlock=some k\/w2.heap.size<=k):=fun k hk e=>e.elim (fun e=>by have:=C2.out.out.own.base e;omega) (fun e=>by have:=C2.out.sz;omega)
       have hTp:¬((Value.slice A2 M2.length c2).ownBlock=some wr.heap.size\/w2.heap.size<=wr.heap.size):=fun e=>e.elim (fun e=>V2.out _ e rfl) (fun e=>by have:=K2.out.lt;omega)
       have X0:∀ x:OnW (fun k=>(Value.slice A2 M2.length c2).ownBlock=some k\/w2.heap.size<=k) w2,x.w.cell? ⟨w.heap.size,0,none⟩=some (.func (.func F) #[] caps):=fun x=>(C2.out.kf.only x.on (hT _ (by omega))).cell (j:=0) rfl
       have X1:∀ x:OnW (fun k=>(Value.slice A2 M2.length c2).ownBlock=some k\/w2.heap.size<=k) w2,x.w.cell? ⟨w.heap.size+1,0,none⟩=some (.slice A2 M2.length c2):=fun x=>(C2.out.ko.only x.on (hT _ (by omega))).cell (j:=0) rfl
       have X2:∀ x:OnW (fun k=>(Value.slice A2 M2.length c2).ownBlock=some k\/w2.heap.size<=k) w2,x.w.cell? ⟨wr.heap.size,2,none⟩=some (.slice pA pp.length pc):=fun x=>(K2.out.only x.on hTp).cell (j:=2) rfl
       go_wp2_with fail
       refine wp_region_mixO (fun k=>(Value.slice A2 M2.length c2).ownBlock=some k\/w2.heap.size<=k) 9 (.one [0,1,2,3,4,5,6] 7 (.one [] 8 (.done []))) (by kernel_rfl) (fun c d v a w h=>by cases d<;>exact h) (by kernel_rfl) ?_
       simp only[wpMixT,pk_nil,pk_cons,pushAt_zero,pushAt_succ,List.drop_succ_cons,List.drop_zero]
       repeat (go_big_quiet_step (fail))
       refine wpQuiet_nil ?_
       clear X0 X1 X2 hT hTp f6 c6 k0 k1 k2
       go_wp2_with fail
       have hbd:Below w2.heap.size w2 w2.drew:=(Below.refl _ w2).drew
       have hf:=HF.out.1 w2.drew (B2.out.trans (hbd.mono B2.out.size)) pA pc pp (XM.out.1.1.up (B2.out.trans (hbd.mono B2.out.size))) (by have:=XM.out.2.len;show pp.length<=64;have e:(⟨pf,pt,pA,pc,pp⟩:PcE).dat.ps=pp:=rfl;rw[e] at this;omega) XM.out.1.2.2
       refine Calls.mono (by simpa using hf) ?_
       rintro r w3 ⟨A3,cc3,rfl,hrs,hge,hb3⟩
       have hb3':Below w2.heap.size w2 w3:=hbd.trans hb3
       have on3:Only (fun k=>(Value.slice A2 M2.length c2).ownBlock=some k\/w2.heap.size<=k) w2 w3:=Only.of_below hb3'
       have C3:=qH (C2.out.up hb3')
       have K3:=qH (K2.out.up hb3')
       have V3:=V2
       have B3:=qH (B2.out.trans (hb3'.mono B2.out.size))
       have L3:=L2
       have GP:=qH (⟨hrs.1,hge,HF.out.2.2.1.len pp (by have:=XM.out.2.len;show pp.length<=64;have e:(⟨pf,pt,pA,pc,pp⟩:PcE).dat.ps=pp:=rfl;rw[e] at this;omega),hrs.2⟩:_/\_/\_/\_)
       have S3:=qH (hb3'.size)
       clear hrs hge hb3 hb3' hf hbd
       have hA4:=padd C3.out.out.own C3.out.sz (by have:=L3.out;omega) (fun x hx=>⟨(C3.out.out.lst x hx).1.1,by have:=(C3.out.out.lst x hx).1.2.1;omega⟩) GP.out.1 (by have:=GP.out.2.2.1;omega) cc3 from_ tq
       have AD4:=qH hA4
       clear hA4
       go_wp2_with fail
       refine thenQ_normal ⟨⟨⟨_,on3⟩,rfl⟩,?_⟩
       refine wpQuiet_nil ?_
       go_wp2_with fail
       refine AD4.out.mono ?_
       rintro r w4 hp4
       obtain⟨v4,M4,rfl,hout,hdat,ho,hnv⟩:=C3.out.out.add (fun g hg=>by have:=HF.out.2.2.2.1 g hg;omega) C3.out.sz GP.out.1 (fun hp g o e=>⟨.inr (by have h9:=GP.out.2.1 g o e;have h8:=C2.out.sz;have h7:w2.drew.heap.size=w2.heap.size:=rfl;omega),fun e2=>by have h9:=GP.out.2.1 g o e;have h8:=C2.out.out.own.lt e2;have h7:w2.drew.heap.size=w2.heap.size:=rfl;omega⟩) GP.out.2.2.1 GP.out.2.2.2 hp4
       obtain⟨A4,c4,rfl,_,_,_⟩:=hout.own.shape eltPc
       have hk:=K3.out.only ho (fun e=>V3.out _ e rfl)
       have hc:=C3.out.put ho hout HF.out.2.2.2.1
       have m4:=(C3.out.ko.only ho (fun e=>by have:=C3.out.out.own.base e;omega)).fz 0
       have n4:=(C3.out.ko.only ho (fun e=>by have:=C3.out.out.own.base e;omega)).cell (j:=0) rfl
       have hb:Below w.heap.size w w4:=B3.out.trans ⟨ho.os,ho.tape,ho.output,ho.size,fun i hi=>ho.block i (by have:=B3.out.size;omega) (fun e=>by have:=C3.out.out.own.base e;omega)⟩
       have K4b:=qH hk
       have on4:Only (fun k=>(Value.slice A2 M2.length c2).ownBlock=some k\/w2.heap.size<=k) w2 w4:=on3.trans (ho.mono (fun k hk=>.inl hk))
       have K4a:=qH (hk.only ((Only.refl (fun k=>k=w.heap.size+1) w4).setCell (p:=⟨w.heap.size+1,0,none⟩) rfl (.slice A4 M4.length c4)) (by have:=HNP.out;omega))
       have C4a:=qH hc
       have D4:=qH hdat
       have V4:=qH (show ∀ k,(Value.slice A4 M4.length c4).ownBlock=some k->k=wr.heap.size->False from fun k e e2=>(hnv k e).elim (fun e=>V3.out k e e2) (fun e=>by have:=K3.out.lt;omega))
       have B4a:=qH (hb.setCell (p:=⟨w.heap.size+1,0,none⟩) (show w.heap.size<=w.heap.size+1 by omega) (.slice A4 M4.length c4))
       have L4:=qH (show M4.length<=65536+4 by have h1:=addP_len (M2.map PcE.dat) (from_) (tq) (g pp);have h2:=congrArg List.length hdat;have h3:=L3.out;simp only[List.length_map] at h1 h2;omega)
       clear hp4 hout hdat ho hnv hk hc hb
       go_wp2_with fail
       refine thenQ_normal ⟨⟨⟨_,on4⟩,rfl⟩,?_⟩
       refine wpQuiet_nil ?_
       clear on3 on4
       have p9:=C4a.out.ka.fz 0
       have p8:=C4a.out.ka.cell (j:=0) rfl
       have k0:=K4b.out.cell (j:=0) rfl
       have k1:=K4b.out.cell (j:=1) rfl
       have k2:=K4b.out.cell (j:=2) rfl
       have ne1:¬ wr.heap.size=w.heap.size+1:=by have:=HNP.out;omega
       have ne2:¬ wr.heap.size=w.heap.size+2:=by have:=HNP.out;omega
       have ne3:¬ w.heap.size+1=wr.heap.size:=by have:=HNP.out;omega
       have ne4:¬ w.heap.size+2=wr.heap.size:=by have:=HNP.out;omega
       go_wp2_with fail
       clear k0 k1 k2 p8 p9 ne1 ne2 ne3 ne4
       generalize w4.setCell ⟨w.heap.size+1,0,none⟩ (.slice A4 M4.length c4)=W4 at *
       have C4:=C4a
       have K4:=K4a
       have B4:=B4a
       clear C4a K4a B4a
       have C5:=qH (C4.out.pos (a':=tq) HF.out.2.2.2.1)
       have K5:=qH (K4.out.only ((Only.refl (fun k=>k=w.heap.size+2) W4).setCell (p:=⟨w.heap.size+2,0,none⟩) rfl (.int .i64 tq)) (by have:=HNP.out;omega))
       have V5:=V4
       have B5:=qH (B4.out.setCell (p:=⟨w.heap.size+2,0,none⟩) (show w.heap.size<=w.heap.size+2 by omega) (.int .i64 tq))
       have L5:=L4
       generalize W4.setCell ⟨w.heap.size+2,0,none⟩ (.int .i64 tq)=W5 at *
       refine(pfill HF.out.1 HF.out.2.1 rfl B5.out C5.out HF.out.2.2.2.1 (HF.out.2.2.1.len [] (by simp)) (by have:=L5.out;omega) tq).mono ?_
       rintro r w6 ⟨rfl,v6,M6,hc,hd,ho,hnv⟩
       obtain⟨A6,c6,rfl,_,_,_⟩:=hc.out.own.shape eltPc
       have K6:=qH (K5.out.only ho (fun e=>by have h1:=HNP.out;rcases e with e|e|e;omega;omega;exact V5.out _ e rfl))
       have V6:=qH (show ∀ k,(Value.slice A6 M6.length c6).ownBlock=some k->k=wr.heap.size->False from fun k e e2=>(hnv k e).elim (fun e=>V5.out k e e2) (fun e=>by have:=K5.out.lt;omega))
       have B6:=qH (show Below w.heap.size w w6 from B5.out.trans ⟨ho.os,ho.tape,ho.output,ho.size,fun i hi=>ho.block i (by have:=B5.out.size;omega) (fun e=>by rcases e with e|e|e;omega;omega;have:=C5.out.out.own.base e;omega)⟩)
       have L6:=qH (show M6.length<=65536+6 by have h1:=fillP_len g (M4.map PcE.dat,tq) (tq);have h2:=congrArg List.length hd;have h3:=L5.out;simp only[List.length_map] at h1 h2;omega)
       have C6:=qH hc
       have D6:=qH hd
       clear hc hd ho hnv
       have k0:=K6.out.cell (j:=0) rfl
       have k1:=K6.out.cell (j:=1) rfl
       have k2:=K6.out.cell (j:=2) rfl
       have c6:=C6.out.ko.cell (j:=0) rfl
       have PB:=qH (XM.out.1.1.up B6.out)
       have hA7:=padd C6.out.out.own C6.out.sz (by have:=L6.out;omega) (fun x hx=>⟨(C6.out.out.lst x hx).1.1,by have:=(C6.out.out.lst x hx).1.2.1;omega⟩) PB.out (by have:=XM.out.2.len;show pp.length<=1000;have e:(⟨pf,pt,pA,pc,pp⟩:PcE).dat.ps=pp:=rfl;rw[e] at this;omega) pc tq pt
       have AD7:=qH hA7
       clear hA7
       go_wp2_with fail
       refine AD7.out.mono ?_
       rintro r w7 hp7
       obtain⟨v7,M7,rfl,hout,hdat,ho,hnv⟩:=C6.out.out.add (fun g hg=>by have:=HF.out.2.2.2.1 g hg;omega) C6.out.sz PB.out (fun hp g o e=>⟨.inl (XM.out.1.2.1 g o e),fun e2=>by have:=C6.out.out.own.base e2;have:=HF.out.2.2.2.1 g (XM.out.1.2.1 g o e);omega⟩) (by have:=XM.out.2.len;show pp.length<=65;have e:(⟨pf,pt,pA,pc,pp⟩:PcE).dat.ps=pp:=rfl;rw[e] at this;omega) XM.out.1.2.2 hp7
       obtain⟨A7,c7,rfl,_,_,_⟩:=hout.own.shape eltPc
       have hk:=K6.out.only ho (fun e=>V6.out _ e rfl)
       have hc:=C6.out.put ho hout HF.out.2.2.2.1
       have m7:=(C6.out.ko.only ho (fun e=>by have:=C6.out.out.own.base e;omega)).fz 0
       have n7:=(C6.out.ko.only ho (fun e=>by have:=C6.out.out.own.base e;omega)).cell (j:=0) rfl
       have hb:Below w.heap.size w w7:=B6.out.trans ⟨ho.os,ho.tape,ho.output,ho.size,fun i hi=>ho.block i (by have:=B6.out.size;omega) (fun e=>by have:=C6.out.out.own.base e;omega)⟩
       have K7a:=qH (hk.only ((Only.refl (fun k=>k=w.heap.size+1) w7).setCell (p:=⟨w.heap.size+1,0,none⟩) rfl (.slice A7 M7.length c7)) (by have:=HNP.out;omega))
       have C7a:=qH hc
       have D7:=qH hdat
       have V7:=qH (show ∀ k,(Value.slice A7 M7.length c7).ownBlock=some k->k=wr.heap.size->False from fun k e e2=>(hnv k e).elim (fun e=>V6.out k e e2) (fun e=>by have:=K6.out.lt;omega))
       have B7a:=qH (hb.setCell (p:=⟨w.heap.size+1,0,none⟩) (show w.heap.size<=w.heap.size+1 by omega) (.slice A7 M7.length c7))
       have L7:=qH (show M7.length<=65536+7 by have h1:=addP_len (M6.map PcE.dat) (tq) (pt) (pp);have h2:=congrArg List.length hdat;have h3:=L6.out;simp only[List.length_map] at h1 h2;omega)
       clear hp7 hout hdat ho hnv hk hc hb
       go_wp2_with fail
       generalize w7.setCell ⟨w.heap.size+1,0,none⟩ (.slice A7 M7.length c7)=W7 at *
       have C7:=C7a
       have K7:=K7a
       have B7:=B7a
       clear C7a K7a B7a
       go_roundw
       case rel=>
        have hs:=ST.out
        unfold stepP tailP midP at hs
        dsimp only at hs
        rw[show min pt from_=from_ by omega,show max pf from_=from_ by omega,show min pt tq=tq by omega,show max pf tq=tq by omega] at hs
        rw[if_pos (show from_<tq by omega)] at hs
        (try dsimp only at hs)
        rw[if_pos (show pt > tq by omega)] at hs
        have hd1:=D1.out
        rw[DA.out] at hd1
        have hd2:=D2.out
        rw[hd1] at hd2
        have hd4:=D4.out
        rw[hd2] at hd4
        have hd6:=D6.out
        rw[hd4] at hd6
        have hd7:=D7.out
        rw[hd6] at hd7
        refine⟨i+1,.slice A7 M7.length c7,M7,by omega,by first|rfl|go_num,?_,?_,B7.out⟩
        ·rw[hs];have h7:=C7.out;rw[hd4] at h7;exact h7
        ·rw[hs];exact hd7
       case measure=>simp[intOf];omega
      ·skip
       have x0:decide (from_<pt)=true:=decide_eq_true (by omega)
       have y0:(from_<pt)=True:=eq_true (by omega)
       have x1:decide (pf<from_)=true:=decide_eq_true (by omega)
       have y1:(pf<from_)=True:=eq_true (by omega)
       have x2:decide (tq<pt)=true:=decide_eq_true (by omega)
       have y2:(tq<pt)=True:=eq_true (by omega)
       have x3:decide (from_<tq)=false:=decide_eq_false (by omega)
       have y3:(from_<tq)=False:=eq_false (by omega)
       have x4:decide (pf<tq)=true:=decide_eq_true (by omega)
       have y4:(pf<tq)=True:=eq_true (by omega)
       have C0:=C6
       have K0:=qH HB6.out.2.1
       have V0:=qH (show ∀ k,(Value.slice Av M.length cv).ownBlock=some k->k=wr.heap.size->False from fun k e e2=>by have:=CH.out.out.own.lt e;omega)
       have B0:=qH HB6.out.2.2
       have L0:=qH (show M.length<=65536+0 by have:=HML.out;omega)
       go_wp2_with fail
       refine(AD from_).out.mono ?_
       rintro r w1 hp1
       obtain⟨v1,M1,rfl,hout,hdat,ho,hnv⟩:=C0.out.out.add (fun g hg=>by have:=HF.out.2.2.2.1 g hg;omega) C0.out.sz PA.out (fun hp g o e=>⟨.inl (XM.out.1.2.1 g o e),fun e2=>by have:=C0.out.out.own.base e2;have:=HF.out.2.2.2.1 g (XM.out.1.2.1 g o e);omega⟩) (by have:=XM.out.2.len;show pp.length<=65;have e:(⟨pf,pt,pA,pc,pp⟩:PcE).dat.ps=pp:=rfl;rw[e] at this;omega) XM.out.1.2.2 hp1
       obtain⟨A1,c1,rfl,_,_,_⟩:=hout.own.shape eltPc
       have hk:=K0.out.only ho (fun e=>V0.out _ e rfl)
       have hc:=C0.out.put ho hout HF.out.2.2.2.1
       have m1:=(C0.out.ko.only ho (fun e=>by have:=C0.out.out.own.base e;omega)).fz 0
       have n1:=(C0.out.ko.only ho (fun e=>by have:=C0.out.out.own.base e;omega)).cell (j:=0) rfl
       have hb:Below w.heap.size w w1:=B0.out.trans ⟨ho.os,ho.tape,ho.output,ho.size,fun i hi=>ho.block i (by have:=B0.out.size;omega) (fun e=>by have:=C0.out.out.own.base e;omega)⟩
       have K1a:=qH (hk.only ((Only.refl (fun k=>k=w.heap.size+1) w1).setCell (p:=⟨w.heap.size+1,0,none⟩) rfl (.slice A1 M1.length c1)) (by have:=HNP.out;omega))
       have C1a:=qH hc
       have D1:=qH hdat
       have V1:=qH (show ∀ k,(Value.slice A1 M1.length c1).ownBlock=some k->k=wr.heap.size->False from fun k e e2=>(hnv k e).elim (fun e=>V0.out k e e2) (fun e=>by have:=K0.out.lt;omega))
       have B1a:=qH (hb.setCell (p:=⟨w.heap.size+1,0,none⟩) (show w.heap.size<=w.heap.size+1 by omega) (.slice A1 M1.length c1))
       have L1:=qH (show M1.length<=65536+1 by have h1:=addP_len (M.map PcE.dat) (pf) (from_) (pp);have h2:=congrArg List.length hdat;have h3:=L0.out;simp only[List.length_map] at h1 h2;omega)
       clear hp1 hout hdat ho hnv hk hc hb
       go_wp2_with fail
       generalize w1.setCell ⟨w.heap.size+1,0,none⟩ (.slice A1 M1.length c1)=W1 at *
       have C1:=C1a
       have K1:=K1a
       have B1:=B1a
       clear C1a K1a B1a
       have k0:=K1.out.cell (j:=0) rfl
       have k1:=K1.out.cell (j:=1) rfl
       have k2:=K1.out.cell (j:=2) rfl
       have c6:=C1.out.ko.cell (j:=0) rfl
       clear e0 e1 e2
       go_region
       have hbd1:Below W1.heap.size W1 W1.drew:=(Below.refl _ W1).drew
       have C1:=qH (C1.out.up hbd1)
       have K1:=qH (K1.out.up hbd1)
       have B1:=qH (B1.out.trans (hbd1.mono B1.out.size))
       clear hbd1 k0 k1 k2 c6
       generalize W1.drew=W1d at *
       have k0:=K1.out.cell (j:=0) rfl
       have k1:=K1.out.cell (j:=1) rfl
       have k2:=K1.out.cell (j:=2) rfl
       have c6:=C1.out.ko.cell (j:=0) rfl
       go_wp2_with fail
       refine(pfill HF.out.1 HF.out.2.1 rfl B1.out C1.out HF.out.2.2.2.1 (HF.out.2.2.1.len [] (by simp)) (by have:=L1.out;omega) tq).mono ?_
       rintro r w6 ⟨rfl,v6,M6,hc,hd,ho,hnv⟩
       obtain⟨A6,c6,rfl,_,_,_⟩:=hc.out.own.shape eltPc
       have K6:=qH (K1.out.only ho (fun e=>by have h1:=HNP.out;rcases e with e|e|e;omega;omega;exact V1.out _ e rfl))
       have V6:=qH (show ∀ k,(Value.slice A6 M6.length c6).ownBlock=some k->k=wr.heap.size->False from fun k e e2=>(hnv k e).elim (fun e=>V1.out k e e2) (fun e=>by have:=K1.out.lt;omega))
       have B6:=qH (show Below w.heap.size w w6 from B1.out.trans ⟨ho.os,ho.tape,ho.output,ho.size,fun i hi=>ho.block i (by have:=B1.out.size;omega) (fun e=>by rcases e with e|e|e;omega;omega;have:=C1.out.out.own.base e;omega)⟩)
       have L6:=qH (show M6.length<=65536+6 by have h1:=fillP_len g (M1.map PcE.dat,s0.2) (tq);have h2:=congrArg List.length hd;have h3:=L1.out;simp only[List.length_map] at h1 h2;omega)
       have C6:=qH hc
       have D6:=qH hd
       clear hc hd ho hnv
       have k0:=K6.out.cell (j:=0) rfl
       have k1:=K6.out.cell (j:=1) rfl
       have k2:=K6.out.cell (j:=2) rfl
       have c6:=C6.out.ko.cell (j:=0) rfl
       have PB:=qH (XM.out.1.1.up B6.out)
       have hA7:=padd C6.out.out.own C6.out.sz (by have:=L6.out;omega) (fun x hx=>⟨(C6.out.out.lst x hx).1.1,by have:=(C6.out.out.lst x hx).1.2.1;omega⟩) PB.out (by have:=XM.out.2.len;show pp.length<=1000;have e:(⟨pf,pt,pA,pc,pp⟩:PcE).dat.ps=pp:=rfl;rw[e] at this;omega) pc tq pt
       have AD7:=qH hA7
       clear hA7
       go_wp2_with fail
       refine AD7.out.mono ?_
       rintro r w7 hp7
       obtain⟨v7,M7,rfl,hout,hdat,ho,hnv⟩:=C6.out.out.add (fun g hg=>by have:=HF.out.2.2.2.1 g hg;omega) C6.out.sz PB.out (fun hp g o e=>⟨.inl (XM.out.1.2.1 g o e),fun e2=>by have:=C6.out.out.own.base e2;have:=HF.out.2.2.2.1 g (XM.out.1.2.1 g o e);omega⟩) (by have:=XM.out.2.len;show pp.length<=65;have e:(⟨pf,pt,pA,pc,pp⟩:PcE).dat.ps=pp:=rfl;rw[e] at this;omega) XM.out.1.2.2 hp7
       obtain⟨A7,c7,rfl,_,_,_⟩:=hout.own.shape eltPc
       have hk:=K6.out.only ho (fun e=>V6.out _ e rfl)
       have hc:=C6.out.put ho hout HF.out.2.2.2.1
       have m7:=(C6.out.ko.only ho (fun e=>by have:=C6.out.out.own.base e;omega)).fz 0
       have n7:=(C6.out.ko.only ho (fun e=>by have:=C6.out.out.own.base e;omega)).cell (j:=0) rfl
       have hb:Below w.heap.size w w7:=B6.out.trans ⟨ho.os,ho.tape,ho.output,ho.size,fun i hi=>ho.block i (by have:=B6.out.size;omega) (fun e=>by have:=C6.out.out.own.base e;omega)⟩
       have K7a:=qH (hk.only ((Only.refl (fun k=>k=w.heap.size+1) w7).setCell (p:=⟨w.heap.size+1,0,none⟩) rfl (.slice A7 M7.length c7)) (by have:=HNP.out;omega))
       have C7a:=qH hc
       have D7:=qH hdat
       have V7:=qH (show ∀ k,(Value.slice A7 M7.length c7).ownBlock=some k->k=wr.heap.size->False from fun k e e2=>(hnv k e).elim (fun e=>V6.out k e e2) (fun e=>by have:=K6.out.lt;omega))
       have B7a:=qH (hb.setCell (p:=⟨w.heap.size+1,0,none⟩) (show w.heap.size<=w.heap.size+1 by omega) (.slice A7 M7.length c7))
       have L7:=qH (show M7.length<=65536+7 by have h1:=addP_len (M6.map PcE.dat) (tq) (pt) (pp);have h2:=congrArg List.length hdat;have h3:=L6.out;simp only[List.length_map] at h1 h2;omega)
       clear hp7 hout hdat ho hnv hk hc hb
       go_wp2_with fail
       generalize w7.setCell ⟨w.heap.size+1,0,none⟩ (.slice A7 M7.length c7)=W7 at *
       have C7:=C7a
       have K7:=K7a
       have B7:=B7a
       clear C7a K7a B7a
       go_roundw
       case rel=>
        have hs:=ST.out
        unfold stepP tailP midP at hs
        dsimp only at hs
        rw[show min pt from_=from_ by omega,show max pf from_=from_ by omega,show min pt tq=tq by omega,show max pf tq=tq by omega] at hs
        rw[if_neg (show ¬ from_<tq by omega)] at hs
        (try dsimp only at hs)
        rw[if_pos (show pt > tq by omega)] at hs
        have hd1:=D1.out
        rw[DA.out] at hd1
        have hd6:=D6.out
        rw[hd1] at hd6
        have hd7:=D7.out
        rw[hd6] at hd7
        refine⟨i+1,.slice A7 M7.length c7,M7,by omega,by first|rfl|go_num,?_,?_,B7.out⟩
        ·rw[hs];have h7:=C7.out;rw[hd1] at h7;exact h7
        ·rw[hs];exact hd7
       case measure=>simp[intOf];omega
     ·skip
      have x0:decide (from_<pt)=true:=decide_eq_true (by omega)
      have y0:(from_<pt)=True:=eq_true (by omega)
      have x1:decide (pf<from_)=true:=decide_eq_true (by omega)
      have y1:(pf<from_)=True:=eq_true (by omega)
      have x2:decide (tq<pt)=false:=decide_eq_false (by omega)
      have y2:(tq<pt)=False:=eq_false (by omega)
      have C0:=C6
      have K0:=qH HB6.out.2.1
      have V0:=qH (show ∀ k,(Value.slice Av M.length cv).ownBlock=some k->k=wr.heap.size->False from fun k e e2=>by have:=CH.out.out.own.lt e;omega)
      have B0:=qH HB6.out.2.2
      have L0:=qH (show M.length<=65536+0 by have:=HML.out;omega)
      go_wp2_with fail
      refine(AD from_).out.mono ?_
      rintro r w1 hp1
      obtain⟨v1,M1,rfl,hout,hdat,ho,hnv⟩:=C0.out.out.add (fun g hg=>by have:=HF.out.2.2.2.1 g hg;omega) C0.out.sz PA.out (fun hp g o e=>⟨.inl (XM.out.1.2.1 g o e),fun e2=>by have:=C0.out.out.own.base e2;have:=HF.out.2.2.2.1 g (XM.out.1.2.1 g o e);omega⟩) (by have:=XM.out.2.len;show pp.length<=65;have e:(⟨pf,pt,pA,pc,pp⟩:PcE).dat.ps=pp:=rfl;rw[e] at this;omega) XM.out.1.2.2 hp1
      obtain⟨A1,c1,rfl,_,_,_⟩:=hout.own.shape eltPc
      have hk:=K0.out.only ho (fun e=>V0.out _ e rfl)
      have hc:=C0.out.put ho hout HF.out.2.2.2.1
      have m1:=(C0.out.ko.only ho (fun e=>by have:=C0.out.out.own.base e;omega)).fz 0
      have n1:=(C0.out.ko.only ho (fun e=>by have:=C0.out.out.own.base e;omega)).cell (j:=0) rfl
      have hb:Below w.heap.size w w1:=B0.out.trans ⟨ho.os,ho.tape,ho.output,ho.size,fun i hi=>ho.block i (by have:=B0.out.size;omega) (fun e=>by have:=C0.out.out.own.base e;omega)⟩
      have K1a:=qH (hk.only ((Only.refl (fun k=>k=w.heap.size+1) w1).setCell (p:=⟨w.heap.size+1,0,none⟩) rfl (.slice A1 M1.length c1)) (by have:=HNP.out;omega))
      have C1a:=qH hc
      have D1:=qH hdat
      have V1:=qH (show ∀ k,(Value.slice A1 M1.length c1).ownBlock=some k->k=wr.heap.size->False from fun k e e2=>(hnv k e).elim (fun e=>V0.out k e e2) (fun e=>by have:=K0.out.lt;omega))
      have B1a:=qH (hb.setCell (p:=⟨w.heap.size+1,0,none⟩) (show w.heap.size<=w.heap.size+1 by omega) (.slice A1 M1.length c1))
      have L1:=qH (show M1.length<=65536+1 by have h1:=addP_len (M.map PcE.dat) (pf) (from_) (pp);have h2:=congrArg List.length hdat;have h3:=L0.out;simp only[List.length_map] at h1 h2;omega)
      clear hp1 hout hdat ho hnv hk hc hb
      go_wp2_with fail
      generalize w1.setCell ⟨w.heap.size+1,0,none⟩ (.slice A1 M1.length c1)=W1 at *
      have C1:=C1a
      have K1:=K1a
      have B1:=B1a
      clear C1a K1a B1a
      have k0:=K1.out.cell (j:=0) rfl
      have k1:=K1.out.cell (j:=1) rfl
      have k2:=K1.out.cell (j:=2) rfl
      have c6:=C1.out.ko.cell (j:=0) rfl
      clear e0 e1 e2
      go_region
      have hbd1:Below W1.heap.size W1 W1.drew:=(Below.refl _ W1).drew
      have C1:=qH (C1.out.up hbd1)
      have K1:=qH (K1.out.up hbd1)
      have B1:=qH (B1.out.trans (hbd1.mono B1.out.size))
      clear hbd1 k0 k1 k2 c6
      generalize W1.drew=W1d at *
      have k0:=K1.out.cell (j:=0) rfl
      have k1:=K1.out.cell (j:=1) rfl
      have k2:=K1.out.cell (j:=2) rfl
      have c6:=C1.out.ko.cell (j:=0) rfl
      go_wp2_with fail
      refine(pfill HF.out.1 HF.out.2.1 rfl B1.out C1.out HF.out.2.2.2.1 (HF.out.2.2.1.len [] (by simp)) (by have:=L1.out;omega) from_).mono ?_
      rintro r w2 ⟨rfl,v2,M2,hc,hd,ho,hnv⟩
      obtain⟨A2,c2,rfl,_,_,_⟩:=hc.out.own.shape eltPc
      have K2:=qH (K1.out.only ho (fun e=>by have h1:=HNP.out;rcases e with e|e|e;omega;omega;exact V1.out _ e rfl))
      have V2:=qH (show ∀ k,(Value.slice A2 M2.length c2).ownBlock=some k->k=wr.heap.size->False from fun k e e2=>(hnv k e).elim (fun e=>V1.out k e e2) (fun e=>by have:=K1.out.lt;omega))
      have B2:=qH (show Below w.heap.size w w2 from B1.out.trans ⟨ho.os,ho.tape,ho.output,ho.size,fun i hi=>ho.block i (by have:=B1.out.size;omega) (fun e=>by rcases e with e|e|e;omega;omega;have:=C1.out.out.own.base e;omega)⟩)
      have L2:=qH (show M2.length<=65536+2 by have h1:=fillP_len g (M1.map PcE.dat,s0.2) (from_);have h2:=congrArg List.length hd;have h3:=L1.out;simp only[List.length_map] at h1 h2;omega)
      have C2:=qH hc
      have D2:=qH hd
      clear hc hd ho hnv
      have k0:=K2.out.cell (j:=0) rfl
      have k1:=K2.out.cell (j:=1) rfl
      have k2:=K2.out.cell (j:=2) rfl
      have c6:=C2.out.ko.cell (j:=0) rfl
      have f6:=C2.out.kf.cell (j:=0) rfl
      have hT:∀ k,k<w.heap.size+3->¬((Value.slice A2 M2.length c2).ownBlock=some k\/w2.heap.size<=k):=fun k hk e=>e.elim (fun e=>by have:=C2.out.out.own.base e;omega) (fun e=>by have:=C2.out.sz;omega)
      have hTp:¬((Value.slice A2 M2.length c2).ownBlock=some wr.heap.size\/w2.heap.size<=wr.heap.size):=fun e=>e.elim (fun e=>V2.out _ e rfl) (fun e=>by have:=K2.out.lt;omega)
      have X0:∀ x:OnW (fun k=>(Value.slice A2 M2.length c2).ownBlock=some k\/w2.heap.size<=k) w2,x.w.cell? ⟨w.heap.size,0,none⟩=some (.func (.func F) #[] caps):=fun x=>(C2.out.kf.only x.on (hT _ (by omega))).cell (j:=0) rfl
      have X1:∀ x:OnW (fun k=>(Value.slice A2 M2.length c2).ownBlock=some k\/w2.heap.size<=k) w2,x.w.cell? ⟨w.heap.size+1,0,none⟩=some (.slice A2 M2.length c2):=fun x=>(C2.out.ko.only x.on (hT _ (by omega))).cell (j:=0) rfl
      have X2:∀ x:OnW (fun k=>(Value.slice A2 M2.length c2).ownBlock=some k\/w2.heap.size<=k) w2,x.w.cell? ⟨wr.heap.size,2,none⟩=some (.slice pA pp.length pc):=fun x=>(K2.out.only x.on hTp).cell (j:=2) rfl
      go_wp2_with fail
      refine wp_region_mixO (fun k=>(Value.slice A2 M2.length c2).ownBlock=some k\/w2.heap.size<=k) 9 (.one [0,1,2,3,4,5,6] 7 (.one [] 8 (.done []))) (by kernel_rfl) (fun c d v a w h=>by cases d<;>exact h) (by kernel_rfl) ?_
      simp only[wpMixT,pk_nil,pk_cons,pushAt_zero,pushAt_succ,List.drop_succ_cons,List.drop_zero]
      repeat (go_big_quiet_step (fail))
      refine wpQuiet_nil ?_
      clear X0 X1 X2 hT hTp f6 c6 k0 k1 k2
      go_wp2_with fail
      have hbd:Below w2.heap.size w2 w2.drew:=(Below.refl _ w2).drew
      have hf:=HF.out.1 w2.drew (B2.out.trans (hbd.mono B2.out.size)) pA pc pp (XM.out.1.1.up (B2.out.trans (hbd.mono B2.out.size))) (by have:=XM.out.2.len;show pp.length<=64;have e:(⟨pf,pt,pA,pc,pp⟩:PcE).dat.ps=pp:=rfl;rw[e] at this;omega) XM.out.1.2.2
      refine Calls.mono (by simpa using hf) ?_
      rintro r w3 ⟨A3,cc3,rfl,hrs,hge,hb3⟩
      have hb3':Below w2.heap.size w2 w3:=hbd.trans hb3
      have on3:Only (fun k=>(Value.slice A2 M2.length c2).ownBlock=some k\/w2.heap.size<=k) w2 w3:=Only.of_below hb3'
      have C3:=qH (C2.out.up hb3')
      have K3:=qH (K2.out.up hb3')
      have V3:=V2
      have B3:=qH (B2.out.trans (hb3'.mono B2.out.size))
      have L3:=L2
      have GP:=qH (⟨hrs.1,hge,HF.out.2.2.1.len pp (by have:=XM.out.2.len;show pp.length<=64;have e:(⟨pf,pt,pA,pc,pp⟩:PcE).dat.ps=pp:=rfl;rw[e] at this;omega),hrs.2⟩:_/\_/\_/\_)
      have S3:=qH (hb3'.size)
      clear hrs hge hb3 hb3' hf hbd
      have hA4:=padd C3.out.out.own C3.out.sz (by have:=L3.out;omega) (fun x hx=>⟨(C3.out.out.lst x hx).1.1,by have:=(C3.out.out.lst x hx).1.2.1;omega⟩) GP.out.1 (by have:=GP.out.2.2.1;omega) cc3 from_ pt
      have AD4:=qH hA4
      clear hA4
      go_wp2_with fail
      refine thenQ_normal ⟨⟨⟨_,on3⟩,rfl⟩,?_⟩
      refine wpQuiet_nil ?_
      go_wp2_with fail
      refine AD4.out.mono ?_
      rintro r w4 hp4
      obtain⟨v4,M4,rfl,hout,hdat,ho,hnv⟩:=C3.out.out.add (fun g hg=>by have:=HF.out.2.2.2.1 g hg;omega) C3.out.sz GP.out.1 (fun hp g o e=>⟨.inr (by have h9:=GP.out.2.1 g o e;have h8:=C2.out.sz;have h7:w2.drew.heap.size=w2.heap.size:=rfl;omega),fun e2=>by have h9:=GP.out.2.1 g o e;have h8:=C2.out.out.own.lt e2;have h7:w2.drew.heap.size=w2.heap.size:=rfl;omega⟩) GP.out.2.2.1 GP.out.2.2.2 hp4
      obtain⟨A4,c4,rfl,_,_,_⟩:=hout.own.shape eltPc
      have hk:=K3.out.only ho (fun e=>V3.out _ e rfl)
      have hc:=C3.out.put ho hout HF.out.2.2.2.1
      have m4:=(C3.out.ko.only ho (fun e=>by have:=C3.out.out.own.base e;omega)).fz 0
      have n4:=(C3.out.ko.only ho (fun e=>by have:=C3.out.out.own.base e;omega)).cell (j:=0) rfl
      have hb:Below w.heap.size w w4:=B3.out.trans ⟨ho.os,ho.tape,ho.output,ho.size,fun i hi=>ho.block i (by have:=B3.out.size;omega) (fun e=>by have:=C3.out.out.own.base e;omega)⟩
      have K4b:=qH hk
      have on4:Only (fun k=>(Value.slice A2 M2.length c2).ownBlock=some k\/w2.heap.size<=k) w2 w4:=on3.trans (ho.mono (fun k hk=>.inl hk))
      have K4a:=qH (hk.only ((Only.refl (fun k=>k=w.heap.size+1) w4).setCell (p:=⟨w.heap.size+1,0,none⟩) rfl (.slice A4 M4.length c4)) (by have:=HNP.out;omega))
      have C4a:=qH hc
      have D4:=qH hdat
      have V4:=qH (show ∀ k,(Value.slice A4 M4.length c4).ownBlock=some k->k=wr.heap.size->False from fun k e e2=>(hnv k e).elim (fun e=>V3.out k e e2) (fun e=>by have:=K3.out.lt;omega))
      have B4a:=qH (hb.setCell (p:=⟨w.heap.size+1,0,none⟩) (show w.heap.size<=w.heap.size+1 by omega) (.slice A4 M4.length c4))
      have L4:=qH (show M4.length<=65536+4 by have h1:=addP_len (M2.map PcE.dat) (from_) (pt) (g pp);have h2:=congrArg List.length hdat;have h3:=L3.out;simp only[List.length_map] at h1 h2;omega)
      clear hp4 hout hdat ho hnv hk hc hb
      go_wp2_with fail
      refine thenQ_normal ⟨⟨⟨_,on4⟩,rfl⟩,?_⟩
      refine wpQuiet_nil ?_
      clear on3 on4
      have p9:=C4a.out.ka.fz 0
      have p8:=C4a.out.ka.cell (j:=0) rfl
      have k0:=K4b.out.cell (j:=0) rfl
      have k1:=K4b.out.cell (j:=1) rfl
      have k2:=K4b.out.cell (j:=2) rfl
      have ne1:¬ wr.heap.size=w.heap.size+1:=by have:=HNP.out;omega
      have ne2:¬ wr.heap.size=w.heap.size+2:=by have:=HNP.out;omega
      have ne3:¬ w.heap.size+1=wr.heap.size:=by have:=HNP.out;omega
      have ne4:¬ w.heap.size+2=wr.heap.size:=by have:=HNP.out;omega
      go_wp2_with fail
      clear k0 k1 k2 p8 p9 ne1 ne2 ne3 ne4
      generalize w4.setCell ⟨w.heap.size+1,0,none⟩ (.slice A4 M4.length c4)=W4 at *
      have C4:=C4a
      have K4:=K4a
      have B4:=B4a
      clear C4a K4a B4a
      have C5:=qH (C4.out.pos (a':=pt) HF.out.2.2.2.1)
      have K5:=qH (K4.out.only ((Only.refl (fun k=>k=w.heap.size+2) W4).setCell (p:=⟨w.heap.size+2,0,none⟩) rfl (.int .i64 pt)) (by have:=HNP.out;omega))
      have V5:=V4
      have B5:=qH (B4.out.setCell (p:=⟨w.heap.size+2,0,none⟩) (show w.heap.size<=w.heap.size+2 by omega) (.int .i64 pt))
      have L5:=L4
      generalize W4.setCell ⟨w.heap.size+2,0,none⟩ (.int .i64 pt)=W5 at *
      go_roundw
      case rel=>
       have hs:=ST.out
       unfold stepP tailP midP at hs
       dsimp only at hs
       rw[show min pt from_=from_ by omega,show max pf from_=from_ by omega,show min pt tq=pt by omega] at hs
       rw[if_pos (show from_<pt by omega)] at hs
       (try dsimp only at hs)
       rw[if_neg (show ¬ pt > tq by omega)] at hs
       have hd1:=D1.out
       rw[DA.out] at hd1
       have hd2:=D2.out
       rw[hd1] at hd2
       have hd4:=D4.out
       rw[hd2] at hd4
       refine⟨i+1,.slice A4 M4.length c4,M4,by omega,by first|rfl|go_num,?_,?_,B5.out⟩
       ·rw[hs];exact C5.out
       ·rw[hs];exact hd4
      case measure=>simp[intOf];omega
    ·by_cases hC:tq<pt
     ·by_cases hD:pf<tq
      ·skip
       have x0:decide (from_<pt)=true:=decide_eq_true (by omega)
       have y0:(from_<pt)=True:=eq_true (by omega)
       have x1:decide (pf<from_)=false:=decide_eq_false (by omega)
       have y1:(pf<from_)=False:=eq_false (by omega)
       have x2:decide (tq<pt)=true:=decide_eq_true (by omega)
       have y2:(tq<pt)=True:=eq_true (by omega)
       have x3:decide (pf<tq)=true:=decide_eq_true (by omega)
       have y3:(pf<tq)=True:=eq_true (by omega)
       have C0:=C6
       have K0:=qH HB6.out.2.1
       have V0:=qH (show ∀ k,(Value.slice Av M.length cv).ownBlock=some k->k=wr.heap.size->False from fun k e e2=>by have:=CH.out.out.own.lt e;omega)
       have B0:=qH HB6.out.2.2
       have L0:=qH (show M.length<=65536+0 by have:=HML.out;omega)
       go_wp2_with fail
       refine(AD from_).out.mono ?_
       rintro r w1 hp1
       obtain⟨v1,M1,rfl,hout,hdat,ho,hnv⟩:=C0.out.out.add (fun g hg=>by have:=HF.out.2.2.2.1 g hg;omega) C0.out.sz PA.out (fun hp g o e=>⟨.inl (XM.out.1.2.1 g o e),fun e2=>by have:=C0.out.out.own.base e2;have:=HF.out.2.2.2.1 g (XM.out.1.2.1 g o e);omega⟩) (by have:=XM.out.2.len;show pp.length<=65;have e:(⟨pf,pt,pA,pc,pp⟩:PcE).dat.ps=pp:=rfl;rw[e] at this;omega) XM.out.1.2.2 hp1
       obtain⟨A1,c1,rfl,_,_,_⟩:=hout.own.shape eltPc
       have hk:=K0.out.only ho (fun e=>V0.out _ e rfl)
       have hc:=C0.out.put ho hout HF.out.2.2.2.1
       have m1:=(C0.out.ko.only ho (fun e=>by have:=C0.out.out.own.base e;omega)).fz 0
       have n1:=(C0.out.ko.only ho (fun e=>by have:=C0.out.out.own.base e;omega)).cell (j:=0) rfl
       have hb:Below w.heap.size w w1:=B0.out.trans ⟨ho.os,ho.tape,ho.output,ho.size,fun i hi=>ho.block i (by have:=B0.out.size;omega) (fun e=>by have:=C0.out.out.own.base e;omega)⟩
       have K1a:=qH (hk.only ((Only.refl (fun k=>k=w.heap.size+1) w1).setCell (p:=⟨w.heap.size+1,0,none⟩) rfl (.slice A1 M1.length c1)) (by have:=HNP.out;omega))
       have C1a:=qH hc
       have D1:=qH hdat
       have V1:=qH (show ∀ k,(Value.slice A1 M1.length c1).ownBlock=some k->k=wr.heap.size->False from fun k e e2=>(hnv k e).elim (fun e=>V0.out k e e2) (fun e=>by have:=K0.out.lt;omega))
       have B1a:=qH (hb.setCell (p:=⟨w.heap.size+1,0,none⟩) (show w.heap.size<=w.heap.size+1 by omega) (.slice A1 M1.length c1))
       have L1:=qH (show M1.length<=65536+1 by have h1:=addP_len (M.map PcE.dat) (pf) (from_) (pp);have h2:=congrArg List.length hdat;have h3:=L0.out;simp only[List.length_map] at h1 h2;omega)
       clear hp1 hout hdat ho hnv hk hc hb
       go_wp2_with fail
       generalize w1.setCell ⟨w.heap.size+1,0,none⟩ (.slice A1 M1.length c1)=W1 at *
       have C1:=C1a
       have K1:=K1a
       have B1:=B1a
       clear C1a K1a B1a
       have k0:=K1.out.cell (j:=0) rfl
       have k1:=K1.out.cell (j:=1) rfl
       have k2:=K1.out.cell (j:=2) rfl
       have c6:=C1.out.ko.cell (j:=0) rfl
       clear e0 e1 e2
       go_region
       have hbd1:Below W1.heap.size W1 W1.drew:=(Below.refl _ W1).drew
       have C1:=qH (C1.out.up hbd1)
       have K1:=qH (K1.out.up hbd1)
       have B1:=qH (B1.out.trans (hbd1.mono B1.out.size))
       clear hbd1 k0 k1 k2 c6
       generalize W1.drew=W1d at *
       have k0:=K1.out.cell (j:=0) rfl
       have k1:=K1.out.cell (j:=1) rfl
       have k2:=K1.out.cell (j:=2) rfl
       have c6:=C1.out.ko.cell (j:=0) rfl
       go_wp2_with fail
       refine(pfill HF.out.1 HF.out.2.1 rfl B1.out C1.out HF.out.2.2.2.1 (HF.out.2.2.1.len [] (by simp)) (by have:=L1.out;omega) pf).mono ?_
       rintro r w2 ⟨rfl,v2,M2,hc,hd,ho,hnv⟩
       obtain⟨A2,c2,rfl,_,_,_⟩:=hc.out.own.shape eltPc
       have K2:=qH (K1.out.only ho (fun e=>by have h1:=HNP.out;rcases e with e|e|e;omega;omega;exact V1.out _ e rfl))
       have V2:=qH (show ∀ k,(Value.slice A2 M2.length c2).ownBlock=some k->k=wr.heap.size->False from fun k e e2=>(hnv k e).elim (fun e=>V1.out k e e2) (fun e=>by have:=K1.out.lt;omega))
       have B2:=qH (show Below w.heap.size w w2 from B1.out.trans ⟨ho.os,ho.tape,ho.output,ho.size,fun i hi=>ho.block i (by have:=B1.out.size;omega) (fun e=>by rcases e with e|e|e;omega;omega;have:=C1.out.out.own.base e;omega)⟩)
       have L2:=qH (show M2.length<=65536+2 by have h1:=fillP_len g (M1.map PcE.dat,s0.2) (pf);have h2:=congrArg List.length hd;have h3:=L1.out;simp only[List.length_map] at h1 h2;omega)
       have C2:=qH hc
       have D2:=qH hd
       clear hc hd ho hnv
       have k0:=K2.out.cell (j:=0) rfl
       have k1:=K2.out.cell (j:=1) rfl
       have k2:=K2.out.cell (j:=2) rfl
       have c6:=C2.out.ko.cell (j:=0) rfl
       have f6:=C2.out.kf.cell (j:=0) rfl
       have hT:∀ k,k<w.heap.size+3->¬((Value.slice A2 M2.length c2).ownBlock=some k\/w2.heap.size<=k):=fun k hk e=>e.elim (fun e=>by have:=C2.out.out.own.base e;omega) (fun e=>by have:=C2.out.sz;omega)
       have hTp:¬((Value.slice A2 M2.length c2).ownBlock=some wr.heap.size\/w2.heap.size<=wr.heap.size):=fun e=>e.elim (fun e=>V2.out _ e rfl) (fun e=>by have:=K2.out.lt;omega)
       have X0:∀ x:OnW (fun k=>(Value.slice A2 M2.length c2).ownBlock=some k\/w2.heap.size<=k) w2,x.w.cell? ⟨w.heap.size,0,none⟩=some (.func (.func F) #[] caps):=fun x=>(C2.out.kf.only x.on (hT _ (by omega))).cell (j:=0) rfl
       have X1:∀ x:OnW (fun k=>(Value.slice A2 M2.length c2).ownBlock=some k\/w2.heap.size<=k) w2,x.w.cell? ⟨w.heap.size+1,0,none⟩=some (.slice A2 M2.length c2):=fun x=>(C2.out.ko.only x.on (hT _ (by omega))).cell (j:=0) rfl
       have X2:∀ x:OnW (fun k=>(Value.slice A2 M2.length c2).ownBlock=some k\/w2.heap.size<=k) w2,x.w.cell? ⟨wr.heap.size,2,none⟩=some (.slice pA pp.length pc):=fun x=>(K2.out.only x.on hTp).cell (j:=2) rfl
       go_wp2_with fail
       refine wp_region_mixO (fun k=>(Value.slice A2 M2.length c2).ownBlock=some k\/w2.heap.size<=k) 9 (.one [0,1,2,3,4,5,6] 7 (.one [] 8 (.done []))) (by kernel_rfl) (fun c d v a w h=>by cases d<;>exact h) (by kernel_rfl) ?_
       simp only[wpMixT,pk_nil,pk_cons,pushAt_zero,pushAt_succ,List.drop_succ_cons,List.drop_zero]
       repeat (go_big_quiet_step (fail))
       refine wpQuiet_nil ?_
       clear X0 X1 X2 hT hTp f6 c6 k0 k1 k2
       go_wp2_with fail
       have hbd:Below w2.heap.size w2 w2.drew:=(Below.refl _ w2).drew
       have hf:=HF.out.1 w2.drew (B2.out.trans (hbd.mono B2.out.size)) pA pc pp (XM.out.1.1.up (B2.out.trans (hbd.mono B2.out.size))) (by have:=XM.out.2.len;show pp.length<=64;have e:(⟨pf,pt,pA,pc,pp⟩:PcE).dat.ps=pp:=rfl;rw[e] at this;omega) XM.out.1.2.2
       refine Calls.mono (by simpa using hf) ?_
       rintro r w3 ⟨A3,cc3,rfl,hrs,hge,hb3⟩
       have hb3':Below w2.heap.size w2 w3:=hbd.trans hb3
       have on3:Only (fun k=>(Value.slice A2 M2.length c2).ownBlock=some k\/w2.heap.size<=k) w2 w3:=Only.of_below hb3'
       have C3:=qH (C2.out.up hb3')
       have K3:=qH (K2.out.up hb3')
       have V3:=V2
       have B3:=qH (B2.out.trans (hb3'.mono B2.out.size))
       have L3:=L2
       have GP:=qH (⟨hrs.1,hge,HF.out.2.2.1.len pp (by have:=XM.out.2.len;show pp.length<=64;have e:(⟨pf,pt,pA,pc,pp⟩:PcE).dat.ps=pp:=rfl;rw[e] at this;omega),hrs.2⟩:_/\_/\_/\_)
       have S3:=qH (hb3'.size)
       clear hrs hge hb3 hb3' hf hbd
       have hA4:=padd C3.out.out.own C3.out.sz (by have:=L3.out;omega) (fun x hx=>⟨(C3.out.out.lst x hx).1.1,by have:=(C3.out.out.lst x hx).1.2.1;omega⟩) GP.out.1 (by have:=GP.out.2.2.1;omega) cc3 pf tq
       have AD4:=qH hA4
       clear hA4
       go_wp2_with fail
       refine thenQ_normal ⟨⟨⟨_,on3⟩,rfl⟩,?_⟩
       refine wpQuiet_nil ?_
       go_wp2_with fail
       refine AD4.out.mono ?_
       rintro r w4 hp4
       obtain⟨v4,M4,rfl,hout,hdat,ho,hnv⟩:=C3.out.out.add (fun g hg=>by have:=HF.out.2.2.2.1 g hg;omega) C3.out.sz GP.out.1 (fun hp g o e=>⟨.inr (by have h9:=GP.out.2.1 g o e;have h8:=C2.out.sz;have h7:w2.drew.heap.size=w2.heap.size:=rfl;omega),fun e2=>by have h9:=GP.out.2.1 g o e;have h8:=C2.out.out.own.lt e2;have h7:w2.drew.heap.size=w2.heap.size:=rfl;omega⟩) GP.out.2.2.1 GP.out.2.2.2 hp4
       obtain⟨A4,c4,rfl,_,_,_⟩:=hout.own.shape eltPc
       have hk:=K3.out.only ho (fun e=>V3.out _ e rfl)
       have hc:=C3.out.put ho hout HF.out.2.2.2.1
       have m4:=(C3.out.ko.only ho (fun e=>by have:=C3.out.out.own.base e;omega)).fz 0
       have n4:=(C3.out.ko.only ho (fun e=>by have:=C3.out.out.own.base e;omega)).cell (j:=0) rfl
       have hb:Below w.heap.size w w4:=B3.out.trans ⟨ho.os,ho.tape,ho.output,ho.size,fun i hi=>ho.block i (by have:=B3.out.size;omega) (fun e=>by have:=C3.out.out.own.base e;omega)⟩
       have K4b:=qH hk
       have on4:Only (fun k=>(Value.slice A2 M2.length c2).ownBlock=some k\/w2.heap.size<=k) w2 w4:=on3.trans (ho.mono (fun k hk=>.inl hk))
       have K4a:=qH (hk.only ((Only.refl (fun k=>k=w.heap.size+1) w4).setCell (p:=⟨w.heap.size+1,0,none⟩) rfl (.slice A4 M4.length c4)) (by have:=HNP.out;omega))
       have C4a:=qH hc
       have D4:=qH hdat
       have V4:=qH (show ∀ k,(Value.slice A4 M4.length c4).ownBlock=some k->k=wr.heap.size->False from fun k e e2=>(hnv k e).elim (fun e=>V3.out k e e2) (fun e=>by have:=K3.out.lt;omega))
       have B4a:=qH (hb.setCell (p:=⟨w.heap.size+1,0,none⟩) (show w.heap.size<=w.heap.size+1 by omega) (.slice A4 M4.length c4))
       have L4:=qH (show M4.length<=65536+4 by have h1:=addP_len (M2.map PcE.dat) (pf) (tq) (g pp);have h2:=congrArg List.length hdat;have h3:=L3.out;simp only[List.length_map] at h1 h2;omega)
       clear hp4 hout hdat ho hnv hk hc hb
       go_wp2_with fail
       refine thenQ_normal ⟨⟨⟨_,on4⟩,rfl⟩,?_⟩
       refine wpQuiet_nil ?_
       clear on3 on4
       have p9:=C4a.out.ka.fz 0
       have p8:=C4a.out.ka.cell (j:=0) rfl
       have k0:=K4b.out.cell (j:=0) rfl
       have k1:=K4b.out.cell (j:=1) rfl
       have k2:=K4b.out.cell (j:=2) rfl
       have ne1:¬ wr.heap.size=w.heap.size+1:=by have:=HNP.out;omega
       have ne2:¬ wr.heap.size=w.heap.size+2:=by have:=HNP.out;omega
       have ne3:¬ w.heap.size+1=wr.heap.size:=by have:=HNP.out;omega
       have ne4:¬ w.heap.size+2=wr.heap.size:=by have:=HNP.out;omega
       go_wp2_with fail
       clear k0 k1 k2 p8 p9 ne1 ne2 ne3 ne4
       generalize w4.setCell ⟨w.heap.size+1,0,none⟩ (.slice A4 M4.length c4)=W4 at *
       have C4:=C4a
       have K4:=K4a
       have B4:=B4a
       clear C4a K4a B4a
       have C5:=qH (C4.out.pos (a':=tq) HF.out.2.2.2.1)
       have K5:=qH (K4.out.only ((Only.refl (fun k=>k=w.heap.size+2) W4).setCell (p:=⟨w.heap.size+2,0,none⟩) rfl (.int .i64 tq)) (by have:=HNP.out;omega))
       have V5:=V4
       have B5:=qH (B4.out.setCell (p:=⟨w.heap.size+2,0,none⟩) (show w.heap.size<=w.heap.size+2 by omega) (.int .i64 tq))
       have L5:=L4
       generalize W4.setCell ⟨w.heap.size+2,0,none⟩ (.int .i64 tq)=W5 at *
       refine(pfill HF.out.1 HF.out.2.1 rfl B5.out C5.out HF.out.2.2.2.1 (HF.out.2.2.1.len [] (by simp)) (by have:=L5.out;omega) tq).mono ?_
       rintro r w6 ⟨rfl,v6,M6,hc,hd,ho,hnv⟩
       obtain⟨A6,c6,rfl,_,_,_⟩:=hc.out.own.shape eltPc
       have K6:=qH (K5.out.only ho (fun e=>by have h1:=HNP.out;rcases e with e|e|e;omega;omega;exact V5.out _ e rfl))
       have V6:=qH (show ∀ k,(Value.slice A6 M6.length c6).ownBlock=some k->k=wr.heap.size->False from fun k e e2=>(hnv k e).elim (fun e=>V5.out k e e2) (fun e=>by have:=K5.out.lt;omega))
       have B6:=qH (show Below w.heap.size w w6 from B5.out.trans ⟨ho.os,ho.tape,ho.output,ho.size,fun i hi=>ho.block i (by have:=B5.out.size;omega) (fun e=>by rcases e with e|e|e;omega;omega;have:=C5.out.out.own.base e;omega)⟩)
       have L6:=qH (show M6.length<=65536+6 by have h1:=fillP_len g (M4.map PcE.dat,tq) (tq);have h2:=congrArg List.length hd;have h3:=L5.out;simp only[List.length_map] at h1 h2;omega)
       have C6:=qH hc
       have D6:=qH hd
       clear hc hd ho hnv
       have k0:=K6.out.cell (j:=0) rfl
       have k1:=K6.out.cell (j:=1) rfl
       have k2:=K6.out.cell (j:=2) rfl
       have c6:=C6.out.ko.cell (j:=0) rfl
       have PB:=qH (XM.out.1.1.up B6.out)
       have hA7:=padd C6.out.out.own C6.out.sz (by have:=L6.out;omega) (fun x hx=>⟨(C6.out.out.lst x hx).1.1,by have:=(C6.out.out.lst x hx).1.2.1;omega⟩) PB.out (by have:=XM.out.2.len;show pp.length<=1000;have e:(⟨pf,pt,pA,pc,pp⟩:PcE).dat.ps=pp:=rfl;rw[e] at this;omega) pc tq pt
       have AD7:=qH hA7
       clear hA7
       go_wp2_with fail
       refine AD7.out.mono ?_
       rintro r w7 hp7
       obtain⟨v7,M7,rfl,hout,hdat,ho,hnv⟩:=C6.out.out.add (fun g hg=>by have:=HF.out.2.2.2.1 g hg;omega) C6.out.sz PB.out (fun hp g o e=>⟨.inl (XM.out.1.2.1 g o e),fun e2=>by have:=C6.out.out.own.base e2;have:=HF.out.2.2.2.1 g (XM.out.1.2.1 g o e);omega⟩) (by have:=XM.out.2.len;show pp.length<=65;have e:(⟨pf,pt,pA,pc,pp⟩:PcE).dat.ps=pp:=rfl;rw[e] at this;omega) XM.out.1.2.2 hp7
       obtain⟨A7,c7,rfl,_,_,_⟩:=hout.own.shape eltPc
       have hk:=K6.out.only ho (fun e=>V6.out _ e rfl)
       have hc:=C6.out.put ho hout HF.out.2.2.2.1
       have m7:=(C6.out.ko.only ho (fun e=>by have:=C6.out.out.own.base e;omega)).fz 0
       have n7:=(C6.out.ko.only ho (fun e=>by have:=C6.out.out.own.base e;omega)).cell (j:=0) rfl
       have hb:Below w.heap.size w w7:=B6.out.trans ⟨ho.os,ho.tape,ho.output,ho.size,fun i hi=>ho.block i (by have:=B6.out.size;omega) (fun e=>by have:=C6.out.out.own.base e;omega)⟩
       have K7a:=qH (hk.only ((Only.refl (fun k=>k=w.heap.size+1) w7).setCell (p:=⟨w.heap.size+1,0,none⟩) rfl (.slice A7 M7.length c7)) (by have:=HNP.out;omega))
       have C7a:=qH hc
       have D7:=qH hdat
       have V7:=qH (show ∀ k,(Value.slice A7 M7.length c7).ownBlock=some k->k=wr.heap.size->False from fun k e e2=>(hnv k e).elim (fun e=>V6.out k e e2) (fun e=>by have:=K6.out.lt;omega))
       have B7a:=qH (hb.setCell (p:=⟨w.heap.size+1,0,none⟩) (show w.heap.size<=w.heap.size+1 by omega) (.slice A7 M7.length c7))
       have L7:=qH (show M7.length<=65536+7 by have h1:=addP_len (M6.map PcE.dat) (tq) (pt) (pp);have h2:=congrArg List.length hdat;have h3:=L6.out;simp only[List.length_map] at h1 h2;omega)
       clear hp7 hout hdat ho hnv hk hc hb
       go_wp2_with fail
       generalize w7.setCell ⟨w.heap.size+1,0,none⟩ (.slice A7 M7.length c7)=W7 at *
       have C7:=C7a
       have K7:=K7a
       have B7:=B7a
       clear C7a K7a B7a
       go_roundw
       case rel=>
        have hs:=ST.out
        unfold stepP tailP midP at hs
        dsimp only at hs
        rw[show min pt from_=from_ by omega,show max pf from_=pf by omega,show min pt tq=tq by omega,show max pf tq=tq by omega] at hs
        rw[if_pos (show pf<tq by omega)] at hs
        (try dsimp only at hs)
        rw[if_pos (show pt > tq by omega)] at hs
        have hd1:=D1.out
        rw[DA.out] at hd1
        have hd2:=D2.out
        rw[hd1] at hd2
        have hd4:=D4.out
        rw[hd2] at hd4
        have hd6:=D6.out
        rw[hd4] at hd6
        have hd7:=D7.out
        rw[hd6] at hd7
        refine⟨i+1,.slice A7 M7.length c7,M7,by omega,by first|rfl|go_num,?_,?_,B7.out⟩
        ·rw[hs];have h7:=C7.out;rw[hd4] at h7;exact h7
        ·rw[hs];exact hd7
       case measure=>simp[intOf];omega
      ·skip
       have x0:decide (from_<pt)=true:=decide_eq_true (by omega)
       have y0:(from_<pt)=True:=eq_true (by omega)
       have x1:decide (pf<from_)=false:=decide_eq_false (by omega)
       have y1:(pf<from_)=False:=eq_false (by omega)
       have x2:decide (tq<pt)=true:=decide_eq_true (by omega)
       have y2:(tq<pt)=True:=eq_true (by omega)
       have x3:decide (pf<tq)=false:=decide_eq_false (by omega)
       have y3:(pf<tq)=False:=eq_false (by omega)
       have C0:=C6
       have K0:=qH HB6.out.2.1
       have V0:=qH (show ∀ k,(Value.slice Av M.length cv).ownBlock=some k->k=wr.heap.size->False from fun k e e2=>by have:=CH.out.out.own.lt e;omega)
       have B0:=qH HB6.out.2.2
       have L0:=qH (show M.length<=65536+0 by have:=HML.out;omega)
       go_wp2_with fail
       refine(AD from_).out.mono ?_
       rintro r w1 hp1
       obtain⟨v1,M1,rfl,hout,hdat,ho,hnv⟩:=C0.out.out.add (fun g hg=>by have:=HF.out.2.2.2.1 g hg;omega) C0.out.sz PA.out (fun hp g o e=>⟨.inl (XM.out.1.2.1 g o e),fun e2=>by have:=C0.out.out.own.base e2;have:=HF.out.2.2.2.1 g (XM.out.1.2.1 g o e);omega⟩) (by have:=XM.out.2.len;show pp.length<=65;have e:(⟨pf,pt,pA,pc,pp⟩:PcE).dat.ps=pp:=rfl;rw[e] at this;omega) XM.out.1.2.2 hp1
       obtain⟨A1,c1,rfl,_,_,_⟩:=hout.own.shape eltPc
       have hk:=K0.out.only ho (fun e=>V0.out _ e rfl)
       have hc:=C0.out.put ho hout HF.out.2.2.2.1
       have m1:=(C0.out.ko.only ho (fun e=>by have:=C0.out.out.own.base e;omega)).fz 0
       have n1:=(C0.out.ko.only ho (fun e=>by have:=C0.out.out.own.base e;omega)).cell (j:=0) rfl
       have hb:Below w.heap.size w w1:=B0.out.trans ⟨ho.os,ho.tape,ho.output,ho.size,fun i hi=>ho.block i (by have:=B0.out.size;omega) (fun e=>by have:=C0.out.out.own.base e;omega)⟩
       have K1a:=qH (hk.only ((Only.refl (fun k=>k=w.heap.size+1) w1).setCell (p:=⟨w.heap.size+1,0,none⟩) rfl (.slice A1 M1.length c1)) (by have:=HNP.out;omega))
       have C1a:=qH hc
       have D1:=qH hdat
       have V1:=qH (show ∀ k,(Value.slice A1 M1.length c1).ownBlock=some k->k=wr.heap.size->False from fun k e e2=>(hnv k e).elim (fun e=>V0.out k e e2) (fun e=>by have:=K0.out.lt;omega))
       have B1a:=qH (hb.setCell (p:=⟨w.heap.size+1,0,none⟩) (show w.heap.size<=w.heap.size+1 by omega) (.slice A1 M1.length c1))
       have L1:=qH (show M1.length<=65536+1 by have h1:=addP_len (M.map PcE.dat) (pf) (from_) (pp);have h2:=congrArg List.length hdat;have h3:=L0.out;simp only[List.length_map] at h1 h2;omega)
       clear hp1 hout hdat ho hnv hk hc hb
       go_wp2_with fail
       generalize w1.setCell ⟨w.heap.size+1,0,none⟩ (.slice A1 M1.length c1)=W1 at *
       have C1:=C1a
       have K1:=K1a
       have B1:=B1a
       clear C1a K1a B1a
       have k0:=K1.out.cell (j:=0) rfl
       have k1:=K1.out.cell (j:=1) rfl
       have k2:=K1.out.cell (j:=2) rfl
       have c6:=C1.out.ko.cell (j:=0) rfl
       clear e0 e1 e2
       go_region
       have hbd1:Below W1.heap.size W1 W1.drew:=(Below.refl _ W1).drew
       have C1:=qH (C1.out.up hbd1)
       have K1:=qH (K1.out.up hbd1)
       have B1:=qH (B1.out.trans (hbd1.mono B1.out.size))
       clear hbd1 k0 k1 k2 c6
       generalize W1.drew=W1d at *
       have k0:=K1.out.cell (j:=0) rfl
       have k1:=K1.out.cell (j:=1) rfl
       have k2:=K1.out.cell (j:=2) rfl
       have c6:=C1.out.ko.cell (j:=0) rfl
       go_wp2_with fail
       refine(pfill HF.out.1 HF.out.2.1 rfl B1.out C1.out HF.out.2.2.2.1 (HF.out.2.2.1.len [] (by simp)) (by have:=L1.out;omega) tq).mono ?_
       rintro r w6 ⟨rfl,v6,M6,hc,hd,ho,hnv⟩
       obtain⟨A6,c6,rfl,_,_,_⟩:=hc.out.own.shape eltPc
       have K6:=qH (K1.out.only ho (fun e=>by have h1:=HNP.out;rcases e with e|e|e;omega;omega;exact V1.out _ e rfl))
       have V6:=qH (show ∀ k,(Value.slice A6 M6.length c6).ownBlock=some k->k=wr.heap.size->False from fun k e e2=>(hnv k e).elim (fun e=>V1.out k e e2) (fun e=>by have:=K1.out.lt;omega))
       have B6:=qH (show Below w.heap.size w w6 from B1.out.trans ⟨ho.os,ho.tape,ho.output,ho.size,fun i hi=>ho.block i (by have:=B1.out.size;omega) (fun e=>by rcases e with e|e|e;omega;omega;have:=C1.out.out.own.base e;omega)⟩)
       have L6:=qH (show M6.length<=65536+6 by have h1:=fillP_len g (M1.map PcE.dat,s0.2) (tq);have h2:=congrArg List.length hd;have h3:=L1.out;simp only[List.length_map] at h1 h2;omega)
       have C6:=qH hc
       have D6:=qH hd
       clear hc hd ho hnv
       have k0:=K6.out.cell (j:=0) rfl
       have k1:=K6.out.cell (j:=1) rfl
       have k2:=K6.out.cell (j:=2) rfl
       have c6:=C6.out.ko.cell (j:=0) rfl
       have PB:=qH (XM.out.1.1.up B6.out)
       have hA7:=padd C6.out.out.own C6.out.sz (by have:=L6.out;omega) (fun x hx=>⟨(C6.out.out.lst x hx).1.1,by have:=(C6.out.out.lst x hx).1.2.1;omega⟩) PB.out (by have:=XM.out.2.len;show pp.length<=1000;have e:(⟨pf,pt,pA,pc,pp⟩:PcE).dat.ps=pp:=rfl;rw[e] at this;omega) pc pf pt
       have AD7:=qH hA7
       clear hA7
       go_wp2_with fail
       refine AD7.out.mono ?_
       rintro r w7 hp7
       obtain⟨v7,M7,rfl,hout,hdat,ho,hnv⟩:=C6.out.out.add (fun g hg=>by have:=HF.out.2.2.2.1 g hg;omega) C6.out.sz PB.out (fun hp g o e=>⟨.inl (XM.out.1.2.1 g o e),fun e2=>by have:=C6.out.out.own.base e2;have:=HF.out.2.2.2.1 g (XM.out.1.2.1 g o e);omega⟩) (by have:=XM.out.2.len;show pp.length<=65;have e:(⟨pf,pt,pA,pc,pp⟩:PcE).dat.ps=pp:=rfl;rw[e] at this;omega) XM.out.1.2.2 hp7
       obtain⟨A7,c7,rfl,_,_,_⟩:=hout.own.shape eltPc
       have hk:=K6.out.only ho (fun e=>V6.out _ e rfl)
       have hc:=C6.out.put ho hout HF.out.2.2.2.1
       have m7:=(C6.out.ko.only ho (fun e=>by have:=C6.out.out.own.base e;omega)).fz 0
       have n7:=(C6.out.ko.only ho (fun e=>by have:=C6.out.out.own.base e;omega)).cell (j:=0) rfl
       have hb:Below w.heap.size w w7:=B6.out.trans ⟨ho.os,ho.tape,ho.output,ho.size,fun i hi=>ho.block i (by have:=B6.out.size;omega) (fun e=>by have:=C6.out.out.own.base e;omega)⟩
       have K7a:=qH (hk.only ((Only.refl (fun k=>k=w.heap.size+1) w7).setCell (p:=⟨w.heap.size+1,0,none⟩) rfl (.slice A7 M7.length c7)) (by have:=HNP.out;omega))
       have C7a:=qH hc
       have D7:=qH hdat
       have V7:=qH (show ∀ k,(Value.slice A7 M7.length c7).ownBlock=some k->k=wr.heap.size->False from fun k e e2=>(hnv k e).elim (fun e=>V6.out k e e2) (fun e=>by have:=K6.out.lt;omega))
       have B7a:=qH (hb.setCell (p:=⟨w.heap.size+1,0,none⟩) (show w.heap.size<=w.heap.size+1 by omega) (.slice A7 M7.length c7))
       have L7:=qH (show M7.length<=65536+7 by have h1:=addP_len (M6.map PcE.dat) (pf) (pt) (pp);have h2:=congrArg List.length hdat;have h3:=L6.out;simp only[List.length_map] at h1 h2;omega)
       clear hp7 hout hdat ho hnv hk hc hb
       go_wp2_with fail
       generalize w7.setCell ⟨w.heap.size+1,0,none⟩ (.slice A7 M7.length c7)=W7 at *
       have C7:=C7a
       have K7:=K7a
       have B7:=B7a
       clear C7a K7a B7a
       go_roundw
       case rel=>
        have hs:=ST.out
        unfold stepP tailP midP at hs
        dsimp only at hs
        rw[show min pt from_=from_ by omega,show max pf from_=pf by omega,show min pt tq=tq by omega,show max pf tq=pf by omega] at hs
        rw[if_neg (show ¬ pf<tq by omega)] at hs
        (try dsimp only at hs)
        rw[if_pos (show pt > tq by omega)] at hs
        have hd1:=D1.out
        rw[DA.out] at hd1
        have hd6:=D6.out
        rw[hd1] at hd6
        have hd7:=D7.out
        rw[hd6] at hd7
        refine⟨i+1,.slice A7 M7.length c7,M7,by omega,by first|rfl|go_num,?_,?_,B7.out⟩
        ·rw[hs];have h7:=C7.out;rw[hd1] at h7;exact h7
        ·rw[hs];exact hd7
       case measure=>simp[intOf];omega
     ·skip
      have x0:decide (from_<pt)=true:=decide_eq_true (by omega)
      have y0:(from_<pt)=True:=eq_true (by omega)
      have x1:decide (pf<from_)=false:=decide_eq_false (by omega)
      have y1:(pf<from_)=False:=eq_false (by omega)
      have x2:decide (tq<pt)=false:=decide_eq_false (by omega)
      have y2:(tq<pt)=False:=eq_false (by omega)
      have x3:decide (pf<pt)=true:=decide_eq_true (by omega)
      have y3:(pf<pt)=True:=eq_true (by omega)
      have C0:=C6
      have K0:=qH HB6.out.2.1
      have V0:=qH (show ∀ k,(Value.slice Av M.length cv).ownBlock=some k->k=wr.heap.size->False from fun k e e2=>by have:=CH.out.out.own.lt e;omega)
      have B0:=qH HB6.out.2.2
      have L0:=qH (show M.length<=65536+0 by have:=HML.out;omega)
      go_wp2_with fail
      refine(AD from_).out.mono ?_
      rintro r w1 hp1
      obtain⟨v1,M1,rfl,hout,hdat,ho,hnv⟩:=C0.out.out.add (fun g hg=>by have:=HF.out.2.2.2.1 g hg;omega) C0.out.sz PA.out (fun hp g o e=>⟨.inl (XM.out.1.2.1 g o e),fun e2=>by have:=C0.out.out.own.base e2;have:=HF.out.2.2.2.1 g (XM.out.1.2.1 g o e);omega⟩) (by have:=XM.out.2.len;show pp.length<=65;have e:(⟨pf,pt,pA,pc,pp⟩:PcE).dat.ps=pp:=rfl;rw[e] at this;omega) XM.out.1.2.2 hp1
      obtain⟨A1,c1,rfl,_,_,_⟩:=hout.own.shape eltPc
      have hk:=K0.out.only ho (fun e=>V0.out _ e rfl)
      have hc:=C0.out.put ho hout HF.out.2.2.2.1
      have m1:=(C0.out.ko.only ho (fun e=>by have:=C0.out.out.own.base e;omega)).fz 0
      have n1:=(C0.out.ko.only ho (fun e=>by have:=C0.out.out.own.base e;omega)).cell (j:=0) rfl
      have hb:Below w.heap.size w w1:=B0.out.trans ⟨ho.os,ho.tape,ho.output,ho.size,fun i hi=>ho.block i (by have:=B0.out.size;omega) (fun e=>by have:=C0.out.out.own.base e;omega)⟩
      have K1a:=qH (hk.only ((Only.refl (fun k=>k=w.heap.size+1) w1).setCell (p:=⟨w.heap.size+1,0,none⟩) rfl (.slice A1 M1.length c1)) (by have:=HNP.out;omega))
      have C1a:=qH hc
      have D1:=qH hdat
      have V1:=qH (show ∀ k,(Value.slice A1 M1.length c1).ownBlock=some k->k=wr.heap.size->False from fun k e e2=>(hnv k e).elim (fun e=>V0.out k e e2) (fun e=>by have:=K0.out.lt;omega))
      have B1a:=qH (hb.setCell (p:=⟨w.heap.size+1,0,none⟩) (show w.heap.size<=w.heap.size+1 by omega) (.slice A1 M1.length c1))
      have L1:=qH (show M1.length<=65536+1 by have h1:=addP_len (M.map PcE.dat) (pf) (from_) (pp);have h2:=congrArg List.length hdat;have h3:=L0.out;simp only[List.length_map] at h1 h2;omega)
      clear hp1 hout hdat ho hnv hk hc hb
      go_wp2_with fail
      generalize w1.setCell ⟨w.heap.size+1,0,none⟩ (.slice A1 M1.length c1)=W1 at *
      have C1:=C1a
      have K1:=K1a
      have B1:=B1a
      clear C1a K1a B1a
      have k0:=K1.out.cell (j:=0) rfl
      have k1:=K1.out.cell (j:=1) rfl
      have k2:=K1.out.cell (j:=2) rfl
      have c6:=C1.out.ko.cell (j:=0) rfl
      clear e0 e1 e2
      go_region
      have hbd1:Below W1.heap.size W1 W1.drew:=(Below.refl _ W1).drew
      have C1:=qH (C1.out.up hbd1)
      have K1:=qH (K1.out.up hbd1)
      have B1:=qH (B1.out.trans (hbd1.mono B1.out.size))
      clear hbd1 k0 k1 k2 c6
      generalize W1.drew=W1d at *
      have k0:=K1.out.cell (j:=0) rfl
      have k1:=K1.out.cell (j:=1) rfl
      have k2:=K1.out.cell (j:=2) rfl
      have c6:=C1.out.ko.cell (j:=0) rfl
      go_wp2_with fail
      refine(pfill HF.out.1 HF.out.2.1 rfl B1.out C1.out HF.out.2.2.2.1 (HF.out.2.2.1.len [] (by simp)) (by have:=L1.out;omega) pf).mono ?_
      rintro r w2 ⟨rfl,v2,M2,hc,hd,ho,hnv⟩
      obtain⟨A2,c2,rfl,_,_,_⟩:=hc.out.own.shape eltPc
      have K2:=qH (K1.out.only ho (fun e=>by have h1:=HNP.out;rcases e with e|e|e;omega;omega;exact V1.out _ e rfl))
      have V2:=qH (show ∀ k,(Value.slice A2 M2.length c2).ownBlock=some k->k=wr.heap.size->False from fun k e e2=>(hnv k e).elim (fun e=>V1.out k e e2) (fun e=>by have:=K1.out.lt;omega))
      have B2:=qH (show Below w.heap.size w w2 from B1.out.trans ⟨ho.os,ho.tape,ho.output,ho.size,fun i hi=>ho.block i (by have:=B1.out.size;omega) (fun e=>by rcases e with e|e|e;omega;omega;have:=C1.out.out.own.base e;omega)⟩)
      have L2:=qH (show M2.length<=65536+2 by have h1:=fillP_len g (M1.map PcE.dat,s0.2) (pf);have h2:=congrArg List.length hd;have h3:=L1.out;simp only[List.length_map] at h1 h2;omega)
      have C2:=qH hc
      have D2:=qH hd
      clear hc hd ho hnv
      have k0:=K2.out.cell (j:=0) rfl
      have k1:=K2.out.cell (j:=1) rfl
      have k2:=K2.out.cell (j:=2) rfl
      have c6:=C2.out.ko.cell (j:=0) rfl
      have f6:=C2.out.kf.cell (j:=0) rfl
      have hT:∀ k,k<w.heap.size+3->¬((Value.slice A2 M2.length c2).ownBlock=some k\/w2.heap.size<=k):=fun k hk e=>e.elim (fun e=>by have:=C2.out.out.own.base e;omega) (fun e=>by have:=C2.out.sz;omega)
      have hTp:¬((Value.slice A2 M2.length c2).ownBlock=some wr.heap.size\/w2.heap.size<=wr.heap.size):=fun e=>e.elim (fun e=>V2.out _ e rfl) (fun e=>by have:=K2.out.lt;omega)
      have X0:∀ x:OnW (fun k=>(Value.slice A2 M2.length c2).ownBlock=some k\/w2.heap.size<=k) w2,x.w.cell? ⟨w.heap.size,0,none⟩=some (.func (.func F) #[] caps):=fun x=>(C2.out.kf.only x.on (hT _ (by omega))).cell (j:=0) rfl
      have X1:∀ x:OnW (fun k=>(Value.slice A2 M2.length c2).ownBlock=some k\/w2.heap.size<=k) w2,x.w.cell? ⟨w.heap.size+1,0,none⟩=some (.slice A2 M2.length c2):=fun x=>(C2.out.ko.only x.on (hT _ (by omega))).cell (j:=0) rfl
      have X2:∀ x:OnW (fun k=>(Value.slice A2 M2.length c2).ownBlock=some k\/w2.heap.size<=k) w2,x.w.cell? ⟨wr.heap.size,2,none⟩=some (.slice pA pp.length pc):=fun x=>(K2.out.only x.on hTp).cell (j:=2) rfl
      go_wp2_with fail
      refine wp_region_mixO (fun k=>(Value.slice A2 M2.length c2).ownBlock=some k\/w2.heap.size<=k) 9 (.one [0,1,2,3,4,5,6] 7 (.one [] 8 (.done []))) (by kernel_rfl) (fun c d v a w h=>by cases d<;>exact h) (by kernel_rfl) ?_
      simp only[wpMixT,pk_nil,pk_cons,pushAt_zero,pushAt_succ,List.drop_succ_cons,List.drop_zero]
      repeat (go_big_quiet_step (fail))
      refine wpQuiet_nil ?_
      clear X0 X1 X2 hT hTp f6 c6 k0 k1 k2
      go_wp2_with fail
      have hbd:Below w2.heap.size w2 w2.drew:=(Below.refl _ w2).drew
      have hf:=HF.out.1 w2.drew (B2.out.trans (hbd.mono B2.out.size)) pA pc pp (XM.out.1.1.up (B2.out.trans (hbd.mono B2.out.size))) (by have:=XM.out.2.len;show pp.length<=64;have e:(⟨pf,pt,pA,pc,pp⟩:PcE).dat.ps=pp:=rfl;rw[e] at this;omega) XM.out.1.2.2
      refine Calls.mono (by simpa using hf) ?_
      rintro r w3 ⟨A3,cc3,rfl,hrs,hge,hb3⟩
      have hb3':Below w2.heap.size w2 w3:=hbd.trans hb3
      have on3:Only (fun k=>(Value.slice A2 M2.length c2).ownBlock=some k\/w2.heap.size<=k) w2 w3:=Only.of_below hb3'
      have C3:=qH (C2.out.up hb3')
      have K3:=qH (K2.out.up hb3')
      have V3:=V2
      have B3:=qH (B2.out.trans (hb3'.mono B2.out.size))
      have L3:=L2
      have GP:=qH (⟨hrs.1,hge,HF.out.2.2.1.len pp (by have:=XM.out.2.len;show pp.length<=64;have e:(⟨pf,pt,pA,pc,pp⟩:PcE).dat.ps=pp:=rfl;rw[e] at this;omega),hrs.2⟩:_/\_/\_/\_)
      have S3:=qH (hb3'.size)
      clear hrs hge hb3 hb3' hf hbd
      have hA4:=padd C3.out.out.own C3.out.sz (by have:=L3.out;omega) (fun x hx=>⟨(C3.out.out.lst x hx).1.1,by have:=(C3.out.out.lst x hx).1.2.1;omega⟩) GP.out.1 (by have:=GP.out.2.2.1;omega) cc3 pf pt
      have AD4:=qH hA4
      clear hA4
      go_wp2_with fail
      refine thenQ_normal ⟨⟨⟨_,on3⟩,rfl⟩,?_⟩
      refine wpQuiet_nil ?_
      go_wp2_with fail
      refine AD4.out.mono ?_
      rintro r w4 hp4
      obtain⟨v4,M4,rfl,hout,hdat,ho,hnv⟩:=C3.out.out.add (fun g hg=>by have:=HF.out.2.2.2.1 g hg;omega) C3.out.sz GP.out.1 (fun hp g o e=>⟨.inr (by have h9:=GP.out.2.1 g o e;have h8:=C2.out.sz;have h7:w2.drew.heap.size=w2.heap.size:=rfl;omega),fun e2=>by have h9:=GP.out.2.1 g o e;have h8:=C2.out.out.own.lt e2;have h7:w2.drew.heap.size=w2.heap.size:=rfl;omega⟩) GP.out.2.2.1 GP.out.2.2.2 hp4
      obtain⟨A4,c4,rfl,_,_,_⟩:=hout.own.shape eltPc
      have hk:=K3.out.only ho (fun e=>V3.out _ e rfl)
      have hc:=C3.out.put ho hout HF.out.2.2.2.1
      have m4:=(C3.out.ko.only ho (fun e=>by have:=C3.out.out.own.base e;omega)).fz 0
      have n4:=(C3.out.ko.only ho (fun e=>by have:=C3.out.out.own.base e;omega)).cell (j:=0) rfl
      have hb:Below w.heap.size w w4:=B3.out.trans ⟨ho.os,ho.tape,ho.output,ho.size,fun i hi=>ho.block i (by have:=B3.out.size;omega) (fun e=>by have:=C3.out.out.own.base e;omega)⟩
      have K4b:=qH hk
      have on4:Only (fun k=>(Value.slice A2 M2.length c2).ownBlock=some k\/w2.heap.size<=k) w2 w4:=on3.trans (ho.mono (fun k hk=>.inl hk))
      have K4a:=qH (hk.only ((Only.refl (fun k=>k=w.heap.size+1) w4).setCell (p:=⟨w.heap.size+1,0,none⟩) rfl (.slice A4 M4.length c4)) (by have:=HNP.out;omega))
      have C4a:=qH hc
      have D4:=qH hdat
      have V4:=qH (show ∀ k,(Value.slice A4 M4.length c4).ownBlock=some k->k=wr.heap.size->False from fun k e e2=>(hnv k e).elim (fun e=>V3.out k e e2) (fun e=>by have:=K3.out.lt;omega))
      have B4a:=qH (hb.setCell (p:=⟨w.heap.size+1,0,none⟩) (show w.heap.size<=w.heap.size+1 by omega) (.slice A4 M4.length c4))
      have L4:=qH (show M4.length<=65536+4 by have h1:=addP_len (M2.map PcE.dat) (pf) (pt) (g pp);have h2:=congrArg List.length hdat;have h3:=L3.out;simp only[List.length_map] at h1 h2;omega)
      clear hp4 hout hdat ho hnv hk hc hb
      go_wp2_with fail
      refine thenQ_normal ⟨⟨⟨_,on4⟩,rfl⟩,?_⟩
      refine wpQuiet_nil ?_
      clear on3 on4
      have p9:=C4a.out.ka.fz 0
      have p8:=C4a.out.ka.cell (j:=0) rfl
      have k0:=K4b.out.cell (j:=0) rfl
      have k1:=K4b.out.cell (j:=1) rfl
      have k2:=K4b.out.cell (j:=2) rfl
      have ne1:¬ wr.heap.size=w.heap.size+1:=by have:=HNP.out;omega
      have ne2:¬ wr.heap.size=w.heap.size+2:=by have:=HNP.out;omega
      have ne3:¬ w.heap.size+1=wr.heap.size:=by have:=HNP.out;omega
      have ne4:¬ w.heap.size+2=wr.heap.size:=by have:=HNP.out;omega
      go_wp2_with fail
      clear k0 k1 k2 p8 p9 ne1 ne2 ne3 ne4
      generalize w4.setCell ⟨w.heap.size+1,0,none⟩ (.slice A4 M4.length c4)=W4 at *
      have C4:=C4a
      have K4:=K4a
      have B4:=B4a
      clear C4a K4a B4a
      have C5:=qH (C4.out.pos (a':=pt) HF.out.2.2.2.1)
      have K5:=qH (K4.out.only ((Only.refl (fun k=>k=w.heap.size+2) W4).setCell (p:=⟨w.heap.size+2,0,none⟩) rfl (.int .i64 pt)) (by have:=HNP.out;omega))
      have V5:=V4
      have B5:=qH (B4.out.setCell (p:=⟨w.heap.size+2,0,none⟩) (show w.heap.size<=w.heap.size+2 by omega) (.int .i64 pt))
      have L5:=L4
      generalize W4.setCell ⟨w.heap.size+2,0,none⟩ (.int .i64 pt)=W5 at *
      go_roundw
      case rel=>
       have hs:=ST.out
       unfold stepP tailP midP at hs
       dsimp only at hs
       rw[show min pt from_=from_ by omega,show max pf from_=pf by omega,show min pt tq=pt by omega] at hs
       rw[if_pos (show pf<pt by omega)] at hs
       (try dsimp only at hs)
       rw[if_neg (show ¬ pt > tq by omega)] at hs
       have hd1:=D1.out
       rw[DA.out] at hd1
       have hd2:=D2.out
       rw[hd1] at hd2
       have hd4:=D4.out
       rw[hd2] at hd4
       refine⟨i+1,.slice A4 M4.length c4,M4,by omega,by first|rfl|go_num,?_,?_,B5.out⟩
       ·rw[hs];exact C5.out
       ·rw[hs];exact hd4
      case measure=>simp[intOf];omega
   ·skip
    have x0:decide (from_<pt)=false:=decide_eq_false (by omega)
    have y0:(from_<pt)=False:=eq_false (by omega)
    have x1:decide (pf<from_)=true:=decide_eq_true (by omega)
    have y1:(pf<from_)=True:=eq_true (by omega)
    have x2:decide (tq<pt)=false:=decide_eq_false (by omega)
    have y2:(tq<pt)=False:=eq_false (by omega)
    have C0:=C6
    have K0:=qH HB6.out.2.1
    have V0:=qH (show ∀ k,(Value.slice Av M.length cv).ownBlock=some k->k=wr.heap.size->False from fun k e e2=>by have:=CH.out.out.own.lt e;omega)
    have B0:=qH HB6.out.2.2
    have L0:=qH (show M.length<=65536+0 by have:=HML.out;omega)
    go_wp2_with fail
    refine(AD pt).out.mono ?_
    rintro r w1 hp1
    obtain⟨v1,M1,rfl,hout,hdat,ho,hnv⟩:=C0.out.out.add (fun g hg=>by have:=HF.out.2.2.2.1 g hg;omega) C0.out.sz PA.out (fun hp g o e=>⟨.inl (XM.out.1.2.1 g o e),fun e2=>by have:=C0.out.out.own.base e2;have:=HF.out.2.2.2.1 g (XM.out.1.2.1 g o e);omega⟩) (by have:=XM.out.2.len;show pp.length<=65;have e:(⟨pf,pt,pA,pc,pp⟩:PcE).dat.ps=pp:=rfl;rw[e] at this;omega) XM.out.1.2.2 hp1
    obtain⟨A1,c1,rfl,_,_,_⟩:=hout.own.shape eltPc
    have hk:=K0.out.only ho (fun e=>V0.out _ e rfl)
    have hc:=C0.out.put ho hout HF.out.2.2.2.1
    have m1:=(C0.out.ko.only ho (fun e=>by have:=C0.out.out.own.base e;omega)).fz 0
    have n1:=(C0.out.ko.only ho (fun e=>by have:=C0.out.out.own.base e;omega)).cell (j:=0) rfl
    have hb:Below w.heap.size w w1:=B0.out.trans ⟨ho.os,ho.tape,ho.output,ho.size,fun i hi=>ho.block i (by have:=B0.out.size;omega) (fun e=>by have:=C0.out.out.own.base e;omega)⟩
    have K1a:=qH (hk.only ((Only.refl (fun k=>k=w.heap.size+1) w1).setCell (p:=⟨w.heap.size+1,0,none⟩) rfl (.slice A1 M1.length c1)) (by have:=HNP.out;omega))
    have C1a:=qH hc
    have D1:=qH hdat
    have V1:=qH (show ∀ k,(Value.slice A1 M1.length c1).ownBlock=some k->k=wr.heap.size->False from fun k e e2=>(hnv k e).elim (fun e=>V0.out k e e2) (fun e=>by have:=K0.out.lt;omega))
    have B1a:=qH (hb.setCell (p:=⟨w.heap.size+1,0,none⟩) (show w.heap.size<=w.heap.size+1 by omega) (.slice A1 M1.length c1))
    have L1:=qH (show M1.length<=65536+1 by have h1:=addP_len (M.map PcE.dat) (pf) (pt) (pp);have h2:=congrArg List.length hdat;have h3:=L0.out;simp only[List.length_map] at h1 h2;omega)
    clear hp1 hout hdat ho hnv hk hc hb
    go_wp2_with fail
    generalize w1.setCell ⟨w.heap.size+1,0,none⟩ (.slice A1 M1.length c1)=W1 at *
    have C1:=C1a
    have K1:=K1a
    have B1:=B1a
    clear C1a K1a B1a
    have k0:=K1.out.cell (j:=0) rfl
    have k1:=K1.out.cell (j:=1) rfl
    have k2:=K1.out.cell (j:=2) rfl
    have c6:=C1.out.ko.cell (j:=0) rfl
    clear e0 e1 e2
    go_region
    have hbd1:Below W1.heap.size W1 W1.drew:=(Below.refl _ W1).drew
    have C1:=qH (C1.out.up hbd1)
    have K1:=qH (K1.out.up hbd1)
    have B1:=qH (B1.out.trans (hbd1.mono B1.out.size))
    clear hbd1 k0 k1 k2 c6
    generalize W1.drew=W1d at *
    have k0:=K1.out.cell (j:=0) rfl
    have k1:=K1.out.cell (j:=1) rfl
    have k2:=K1.out.cell (j:=2) rfl
    have c6:=C1.out.ko.cell (j:=0) rfl
    go_wp2_with fail
    go_roundw
    case rel=>
     have hs:=ST.out
     unfold stepP tailP midP at hs
     dsimp only at hs
     rw[show min pt from_=pt by omega,show max pf from_=from_ by omega,show min pt tq=pt by omega] at hs
     rw[if_neg (show ¬ from_<pt by omega)] at hs
     (try dsimp only at hs)
     rw[if_neg (show ¬ pt > tq by omega)] at hs
     have hd1:=D1.out
     rw[DA.out] at hd1
     refine⟨i+1,.slice A1 M1.length c1,M1,by omega,by first|rfl|go_num,?_,?_,B1.out⟩
     ·rw[hs];exact C1.out
     ·rw[hs];exact hd1
    case measure=>simp[intOf];omega
  ·have d0:decide ((i:Int)<L.length)=false:=decide_eq_false (by omega)
   have d00:((i:Int)<L.length)=False:=eq_false (by omega)
   have d01:(i<L.length)=False:=eq_false hlt
   obtain rfl:i=L.length:=by omega
   have c8:=CH.out.ko.cell (j:=0) rfl
   go_wp2_with fail
   refine(pfill HF.out.1 HF.out.2.1 rfl BR.out CH.out HF.out.2.2.2.1 (HF.out.2.2.1.len [] (by simp)) (by obtain⟨cc,hcc,hc2,_⟩:=FO.out;have:=hcc.u.small hc2;rw[<-DA.out] at this;simp at this;omega) tq).mono ?_
   rintro r w2 ⟨rfl,v2,M2,hc,hd,ho,hnv⟩
   have c8:=hc.ko.cell (j:=0) rfl
   obtain⟨A2,c2,rfl,_,_,_⟩:=hc.out.own.shape eltPc
   have X:=qH (⟨hc,hd,ho⟩:_/\_/\_)
   clear hc hd ho hnv
   go_wp2_with fail
   go_ret
   refine⟨_,M2,rfl,X.out.1.out,?_,BR.out.trans ⟨X.out.2.2.os,X.out.2.2.tape,X.out.2.2.output,X.out.2.2.size,fun i hi=>X.out.2.2.block i (by have:=BR.out.size;omega) (fun e=>by rcases e with e|e|e;omega;omega;have:=CH.out.out.own.base e;omega)⟩⟩
   rw[X.out.2.1,DA.out]
   unfold changedP foldI
   rw[List.take_of_length_le (by simp)]
end
end Go.Proofs.YtkpoodjhjfmfjaaGreatDoor
