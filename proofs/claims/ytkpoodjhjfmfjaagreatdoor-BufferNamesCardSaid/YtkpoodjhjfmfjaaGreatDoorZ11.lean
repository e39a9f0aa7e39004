/- A part. -/
import Derived.Test.YtkpoodjhjfmfjaaGreatDoorZ10
import Derived.BigRegion
set_option linter.unusedVariables false
set_option linter.unusedSimpArgs false
namespace Go.Proofs.YtkpoodjhjfmfjaaGreatDoor
open Go.RowKit Go.Lib
open Ovs (PropE encP eltP SortedP)
section
variable {w w' : World} {b : Nat} {v : Value} {L : List PcE} {R : Nat → Prop} {A : Option Addr}
theorem keeps65 {g:List PropE->List PropE} (h:KeepsP 64 64 g):KeepsP 64 65 g:=⟨fun ps hp=>by have:=h.len ps hp;omega,h.so⟩
set_option maxRecDepth 100000 in
set_option maxHeartbeats 4000000 in
theorem ptakeP (h:PrsAt w b v L R) (hR:∀ g,R g->g<w.heap.size) (f t nm:Int) :
  Calls Tryz.prog 195 #[.pointer (some ⟨b,0,none⟩),.int .i64 f,.int .i64 t,.int .i64 nm] w (PrPost w b v R (.int .i64 (checkP f t nm)) (takePP (L.map PcE.dat) f t nm)):=by
 have hb:=below1 w (.cells #[.int .i64 nm] 3)
 have hk:=Blk.made w 3 #[.int .i64 nm]
 have hz:(w.alloc (.cells #[.int .i64 nm] 3)).heap.size=w.heap.size+1:=by simp
 have n1:=hk.cell (j:=0) rfl
 have hlen:=h.len
 have hH:=h.up hb
 have HCK:=qH (pcheck hH f t nm)
 have H:=qH hH
 have H0:=qH h
 have X:=qH (⟨hb,hk,hz,hR⟩:_/\_/\_/\_)
 obtain⟨r,hr⟩:∃ r,r=checkP f t nm:=⟨_,rfl⟩
 rw[<-hr] at HCK ⊢
 have HRR:=qH hr
 obtain⟨P,hP⟩:∃ z,z=takePP (L.map PcE.dat) f t nm:=⟨_,rfl⟩
 rw[<-hP]
 have EP:=qH hP
 clear hP
 by_cases hr0:r=0
 ·obtain⟨f1,f2,f3,f4⟩:=checkP_may (hr.symm.trans hr0)
  subst hr0
  have hch:=pchange (takeC w.heap.size nm hk) (Ovs.enters_mk Tryz.func254 (by kernel_rfl) rfl) (keeps65 (withoutP_keeps nm)) hH.own (Nat.zero_le _) hH.lst hH.ok (fun g hg=>by have:=hR g hg;omega) hH.nv f t f2 f1 f3
  have HCH:=qH hch
  have FF:=qH (⟨f1,f2,f3⟩:_/\_/\_)
  obtain⟨Av,c,rfl,hvc,hvm,hRv⟩:=hH.own.shape eltPc
  have c0:=hH.blk.cell (j:=0) rfl
  clear h hb hk hz hH hR hRv hr f1 f2 f3 f4 hvm hch
  go_enter Tryz.func195,Tryz.ntmps195
  go_wp2_with fail
  refine HCK.out.mono ?_
  rintro e w1 ⟨rfl,rfl⟩
  go_wp2_with fail
  generalize w.alloc (.cells #[.int .i64 nm] 3)=W at *
  refine HCH.out.mono ?_
  rintro e w3 ⟨v3,L3,rfl,hown,hdat,hon,hnv,hls⟩
  have hkb:Blk w3 b 192 #[.slice Av L.length c,.bool true]:=H.out.blk.only hon (fun e=>H.out.vb e)
  have f0:=hkb.fz 0
  have c3:=hkb.cell (j:=0) rfl
  have Z:=qH (⟨hown,hdat,hon,hnv,hls,hkb⟩:_/\_/\_/\_/\_/\_)
  obtain⟨A3,c3',rfl,_,_,_⟩:=hown.shape eltPc
  clear hown hdat hon hnv hls hkb HCH
  go_wp2_with fail
  go_ret
  have hz:=Z.out
  have hP:takePP (L.map PcE.dat) f t nm=changeP (L.map PcE.dat) f t (withoutP nm):=by unfold takePP;rw[<-HRR.out,if_pos rfl]
  have hok:PcsOk (L3.map PcE.dat):=by
   have:=takePP_ok (f:=f) (t:=t) (nm:=nm) H.out.ok
   rw[hz.2.1,<-hP];exact this
  have hW:=X.out.2.2.1
  have hbl:=H0.out.blk.lt
  rw[EP.out,hP]
  obtain⟨R',hp,hR'⟩:=H0.out.put hz.2.2.2.2.2 (by have:=hz.2.2.1.size;omega) hz.1 hok (fun e=>by
    rcases hz.2.2.2.1 b e with h|h
    ·exact H0.out.vb h
    ·omega) (fun x hx=>⟨(hz.2.2.2.2.1 x hx).1,fun g o e hp=>⟨((hz.2.2.2.2.1 x hx).2 g o e hp).1.imp id (fun h=>by omega),((hz.2.2.2.2.1 x hx).2 g o e hp).2⟩⟩) X.out.2.2.2
  refine⟨rfl,_,L3,R',hp,hz.2.1,?_,fun k hk=>?_,hR'⟩
  ·exact((Only.of_below X.out.1).trans (hz.2.2.1.mono (fun k hk=>.inr hk))).setCell (p:=⟨b,0,none⟩) (.inl rfl) _
  ·rcases hz.2.2.2.1 k hk with h|h
   ·exact .inl h
   ·exact .inr (by omega)
 ·have d0:(r != 0)=true:=by simpa using hr0
  have HR0:=qH hr0
  have p0:(r=0)=False:=eq_false hr0
  clear h hb hk hz hH hR hr hr0
  go_enter Tryz.func195,Tryz.ntmps195
  go_wp2_with fail
  refine HCK.out.mono ?_
  rintro e w1 ⟨rfl,rfl⟩
  go_wp2_with fail
  go_ret
  have hP:takePP (L.map PcE.dat) f t nm=L.map PcE.dat:=by unfold takePP;rw[<-HRR.out,if_neg HR0.out]
  rw[EP.out,hP]
  exact PrPost.same H0.out X.out.1
set_option maxHeartbeats 400000 in
theorem pnew (w:World):Calls Tryz.prog 137 #[] w fun e w'=>e=.returned (.pointer (some ⟨w.heap.size,0,none⟩))/\PrsAt w' w.heap.size (.slice none 0 0) [] (fun _=>False)/\Below w.heap.size w w':=by
 have hb:=below1 w (.cells #[.slice none 0 0,.bool true] 192)
 have hk:=Blk.made w 192 #[.slice none 0 0,.bool true]
 have X:=qH (⟨hb,hk⟩:_/\_)
 clear hb hk
 go_enter Tryz.func137,Tryz.ntmps137
 go_wp2_with fail
 go_ret
 exact⟨rfl,⟨X.out.2,ROwn.nil _ _,by simp,⟨List.Pairwise.nil,by simp⟩,by simp[Value.ownBlock],id,fun k hk=>by simp[Value.ownBlock] at hk⟩,X.out.1⟩
end
end Go.Proofs.YtkpoodjhjfmfjaaGreatDoor
namespace Go.Proofs.YtkpoodjhjfmfjaaGreatDoor
open Go.RowKit Go.Lib
open Ovs (PropE encP eltP SortedP)
section
variable {w w' : World} {b : Nat} {v : Value} {L : List PcE} {R : Nat → Prop} {A : Option Addr}
theorem foldl_succ {α β:Type} {f:β->α->β} {z:β} {l:List α} {i:Nat} {x:α} (h:l[i]?=some x):(l.take (i+1)).foldl f z=f ((l.take i).foldl f z) x:=by
 rw[List.take_add_one,h];simp
theorem insStep_hi {a n:Int} {o:List Pc} {p:Pc} (h:p.t > a):insStep a n o p=addP (addP o p.f (min p.t a) p.ps) (max p.f a+n) (p.t+n) p.ps:=by
 unfold insStep;dsimp only;rw[if_pos h]
theorem insStep_lo {a n:Int} {o:List Pc} {p:Pc} (h:¬ p.t > a):insStep a n o p=addP o p.f (min p.t a) p.ps:=by
 unfold insStep;dsimp only;rw[if_neg h]
theorem insFold_upto {a n:Int} (hn:0<=n) (ha:1<=a):∀(l o:List Pc) (c:Int),Upto 64 o (insC1 a n c)->l.Pairwise (fun x y=>x.t<=y.f)->(∀ x ∈ l,PcK 64 x)->(∀ x ∈ l,c<=x.f)->(∀ x ∈ l,a<x.t->x.t+n<=65537)->c<=65537->(a<c->c+n<=65537)->(l.foldl (insStep a n) o).length<=65536
 | [],o,c,h,_,_,_,_,hc,hcn=>(h.mono (e':=65537) (by unfold insC1;split<;>omega)).len
 | p :: l,o,c,h,hp,hk,hc,hb,_,_=>by
   obtain⟨hp1,hp2⟩:=List.pairwise_cons.1 hp
   exact insFold_upto hn ha l _ p.t (insStep_ok hn ha h (hk p (by simp)) (hc p (by simp)) (hb p (by simp))) hp2 (fun x hx=>hk x (by simp[hx])) (fun x hx=>hp1 x hx) (fun x hx=>hb x (by simp[hx])) (hk p (by simp)).t1 (hb p (by simp))
theorem delFold_upto {f t:Int} (hf:1<=f) (hft:f<=t):∀(l o:List Pc) (c:Int),Upto 64 o (delC1 f t c)->l.Pairwise (fun x y=>x.t<=y.f)->(∀ x ∈ l,PcK 64 x)->(∀ x ∈ l,c<=x.f)->c<=65537->(l.foldl (delStep f t) o).length<=65536
 | [],o,c,h,_,_,_,hc=>(h.mono (e':=65537) (by unfold delC1;(repeat' split)<;>omega)).len
 | p :: l,o,c,h,hp,hk,hc,_=>by
   obtain⟨hp1,hp2⟩:=List.pairwise_cons.1 hp
   exact delFold_upto hf hft l _ p.t (delStep_ok hf hft h (hk p (by simp)) (hc p (by simp))) hp2 (fun x hx=>hk x (by simp[hx])) (fun x hx=>hp1 x hx) (hk p (by simp)).t1
set_option maxRecDepth 100000 in
set_option maxHeartbeats 8000000 in
theorem pdeleted (h:PrsAt w b v L R) (hR:∀ g,R g->g<w.heap.size) (f t:Int) :
  Calls Tryz.prog 155 #[.pointer (some ⟨b,0,none⟩),.int .i64 f,.int .i64 t] w (PrPost w b v R (.int .i64 (deletedE f t)) (deletedP (L.map PcE.dat) f t)):=by
 have HN:=qH (pnone h)
 have HM:=qH (pmay f t w)
 have hlen:=h.len
 have H:=qH h
 have HR:=qH hR
 obtain⟨Av,c,rfl,hvc,hvm,hRv⟩:=h.own.shape eltPc
 have HS:=qH hRv
 have cz:=h.blk.cell (j:=0) rfl
 have BB:=qH (Below.refl w.heap.size w)
 have POK:=qH (deletedP_ok (f:=f) (t:=t) h.ok)
 obtain⟨E,hE⟩:∃ z,z=deletedE f t:=⟨_,rfl⟩
 obtain⟨P,hP⟩:∃ z,z=deletedP (L.map PcE.dat) f t:=⟨_,rfl⟩
 rw[<-hE,<-hP]
 unfold deletedE at hE
 unfold deletedP at hP POK
 cases hm:mayP f t
 ·rw[hm] at HM hE hP
  simp only[Bool.false_eq_true,if_false] at hE hP
  have XX:=qH (⟨hE,hP⟩:_/\_)
  clear h hR hRv hm hE hP POK
  go_enter Tryz.func155,Tryz.ntmps155
  go_wp2_with fail
  refine HN.out.mono ?_
  rintro e w1 ⟨rfl,rfl⟩
  go_wp2_with fail
  refine HM.out.mono ?_
  rintro e w1 ⟨rfl,rfl⟩
  go_wp2_with fail
  go_ret
  rw[XX.out.1,XX.out.2]
  exact PrPost.same H.out (Below.refl _ _)
 ·rw[hm] at HM hE hP POK
  simp only[if_true] at hE hP POK
  have PEQ:=qH hP.symm
  obtain⟨m1,m2,m3⟩:1<=f/\f<=t/\t<=65537:=by unfold mayP at hm;simp at hm;omega
  have HLEN:=qH (fun i=>delFold_upto m1 m2 ((L.map PcE.dat).take i) [] 0 (Upto.nil _ _) (h.ok.pw.sublist (List.take_sublist _ _)) (fun x hx=>h.ok.ok x (List.mem_of_mem_take hx)) (fun x hx=>by have:=(h.ok.ok x (List.mem_of_mem_take hx)).f1;omega) (by omega))
  subst hE
  clear h hR hRv hm hP
  go_enter Tryz.func155,Tryz.ntmps155
  go_wp2_with fail
  refine HN.out.mono ?_
  rintro e w1 ⟨rfl,rfl⟩
  go_wp2_with fail
  refine HM.out.mono ?_
  rintro e w1 ⟨rfl,rfl⟩
  go_wp2_with fail
  go_loopw [7,23] (fun vo vi wr=>∃(i:Nat) (M:List PcE),i<=L.length/\vi=.int .i64 i/\OutOk wr w.heap.size vo M R/\M.map PcE.dat=((L.map PcE.dat).take i).foldl (delStep f t) []/\Below w.heap.size w wr) (fun _ vi _=>L.length -(intOf vi).toNat)
  case atStart=>exact⟨0,[],by omega,rfl,OutOk.nil _ _ _,rfl,BB.out⟩
  case round=>
   obtain⟨i,M,hi,rfl,hout,hdat,hbr⟩:=hrel
   obtain⟨A0,c0,rfl,_,_,_⟩:=hout.own.shape eltPc
   have OR:=qH hout
   have DA:=qH hdat
   have BR:=qH hbr
   have hML:M.length<=65536:=by
    have h1:=HLEN.out i
    rw[<-hdat,List.length_map] at h1;exact h1
   have HML:=qH hML
   by_cases hlt:i<L.length
   ·obtain⟨⟨pf,pt,pA,pc,pp⟩,hx⟩:∃ x,L[i]?=some x:=⟨_,List.getElem?_eq_getElem hlt⟩
    obtain⟨gg,o,hAe,hgg,hc⟩:=(HS.out.up hbr).at_ eltPc hx
    cases hAe
    have e0:=hc 0 _ rfl
    have e1:=hc 1 _ rfl
    have e2:=hc 2 _ rfl
    simp only[<-Nat.add_assoc,Nat.add_zero] at e0 e1 e2
    have d0:decide ((i:Int)<L.length)=true:=decide_eq_true (by omega)
    have lt1:(i:Int)<L.length:=by omega
    have d01:(i<L.length)=True:=eq_true hlt
    have hxm:=H.out.lst _ (List.mem_of_getElem? hx)
    have hxk:=mem_pieces H.out.ok (List.mem_of_getElem? hx)
    have XM:=qH (⟨hxm,hxk⟩:_/\_)
    have hb6:=below1 wr (.cells #[.int .i64 pf,.int .i64 pt,.slice pA pp.length pc] 190)
    have hk6:=Blk.made wr 190 #[.int .i64 pf,.int .i64 pt,.slice pA pp.length pc]
    have k0:=hk6.cell (j:=0) rfl
    have k1:=hk6.cell (j:=1) rfl
    have k2:=hk6.cell (j:=2) rfl
    have O0:=qH (hout.up hb6)
    have K0:=qH hk6
    have V0:=qH (show ∀ k,(Value.slice A0 M.length c0).ownBlock=some k->k=wr.heap.size->False from fun k e e2=>by have:=hout.own.lt e;omega)
    have B0:=qH (up2 hbr hb6)
    have L0:=qH (show M.length<=65536+0 by omega)
    have hstep:=foldl_succ (f:=delStep f t) (z:=[]) (dat_get hx)
    rw[<-hdat] at hstep
    have ST:=qH hstep
    have hft2:pf<pt:=hxk.ft
    have hf1:1<=pf:=hxk.f1
    have ht1:pt<=65537:=hxk.t1
    clear hc hx hxm hxk hb6 hk6 hout hdat hbr hML hstep hlt
    by_cases hA:f<pt
    ·by_cases hB:pf<t
     ·skip
      have x0:decide (f<pt)=true:=decide_eq_true (by omega)
      have y0:(f<pt)=True:=eq_true (by omega)
      have x1:decide (pf<t)=true:=decide_eq_true (by omega)
      have y1:(pf<t)=True:=eq_true (by omega)
      have hA:=padd O0.out.own B0.out.size (by have:=L0.out;omega) (fun x hx=>⟨(O0.out.lst x hx).1.1,by have:=(O0.out.lst x hx).1.2.1;omega⟩) (XM.out.1.1.up B0.out) (by have:=XM.out.2.len;show pp.length<=1000;have e:(⟨pf,pt,pA,pc,pp⟩:PcE).dat.ps=pp:=rfl;rw[e] at this;omega) pc (pf) (f)
      have AD:=qH hA
      clear hA
      go_wp2_with fail
      refine AD.out.mono ?_
      rintro r w1 hp
      obtain⟨v1,M1,rfl,hout,hdat,ho,hnv⟩:=O0.out.add HR.out B0.out.size (XM.out.1.1.up B0.out) (fun hp g o e=>⟨.inl (XM.out.1.2.1 g o e),fun e2=>by have:=O0.out.own.base e2;have:=HR.out g (XM.out.1.2.1 g o e);omega⟩) (by have:=XM.out.2.len;show pp.length<=65;have e:(⟨pf,pt,pA,pc,pp⟩:PcE).dat.ps=pp:=rfl;rw[e] at this;omega) XM.out.1.2.2 hp
      obtain⟨A1,c1,rfl,_,_,_⟩:=hout.own.shape eltPc
      have K1:=qH (K0.out.only ho (fun e=>V0.out _ e rfl))
      have V1:=qH (show ∀ k,(Value.slice A1 M1.length c1).ownBlock=some k->k=wr.heap.size->False from fun k e e2=>(hnv k e).elim (fun e=>V0.out k e e2) (fun e=>by have:=K0.out.lt;omega))
      have B1:=qH (show Below w.heap.size w w1 from B0.out.trans ⟨ho.os,ho.tape,ho.output,ho.size,fun i hi=>ho.block i (by have:=B0.out.size;omega) (fun e=>by have:=O0.out.own.base e;omega)⟩)
      have O1:=qH hout
      have D1:=qH hdat
      have L1:=qH (show M1.length<=65536+1 by have h1:=addP_len (M.map PcE.dat) (pf) (f) pp;have h2:=congrArg List.length hdat;have h3:=L0.out;simp only[List.length_map] at h1 h2;omega)
      clear hp hout hdat ho hnv AD k0 k1 k2
      have k0:=K1.out.cell (j:=0) rfl
      have k1:=K1.out.cell (j:=1) rfl
      have k2:=K1.out.cell (j:=2) rfl
      have s10:IntKind.i64.wrap (t - f)=t - f:=IntWalk.i64_in _ (by omega)
      have s11:IntKind.i64.wrap (t -(t - f))=t -(t - f):=IntWalk.i64_in _ (by omega)
      have s12:IntKind.i64.wrap (pt -(t - f))=pt -(t - f):=IntWalk.i64_in _ (by omega)
      have hA:=padd O1.out.own B1.out.size (by have:=L1.out;omega) (fun x hx=>⟨(O1.out.lst x hx).1.1,by have:=(O1.out.lst x hx).1.2.1;omega⟩) (XM.out.1.1.up B1.out) (by have:=XM.out.2.len;show pp.length<=1000;have e:(⟨pf,pt,pA,pc,pp⟩:PcE).dat.ps=pp:=rfl;rw[e] at this;omega) pc (t -(t - f)) (pt -(t - f))
      have AD:=qH hA
      clear hA
      go_wp2_with fail
      refine AD.out.mono ?_
      rintro r w2 hp
      obtain⟨v2,M2,rfl,hout,hdat,ho,hnv⟩:=O1.out.add HR.out B1.out.size (XM.out.1.1.up B1.out) (fun hp g o e=>⟨.inl (XM.out.1.2.1 g o e),fun e2=>by have:=O1.out.own.base e2;have:=HR.out g (XM.out.1.2.1 g o e);omega⟩) (by have:=XM.out.2.len;show pp.length<=65;have e:(⟨pf,pt,pA,pc,pp⟩:PcE).dat.ps=pp:=rfl;rw[e] at this;omega) XM.out.1.2.2 hp
      obtain⟨A2,c2,rfl,_,_,_⟩:=hout.own.shape eltPc
      have K2:=qH (K1.out.only ho (fun e=>V1.out _ e rfl))
      have V2:=qH (show ∀ k,(Value.slice A2 M2.length c2).ownBlock=some k->k=wr.heap.size->False from fun k e e2=>(hnv k e).elim (fun e=>V1.out k e e2) (fun e=>by have:=K1.out.lt;omega))
      have B2:=qH (show Below w.heap.size w w2 from B1.out.trans ⟨ho.os,ho.tape,ho.output,ho.size,fun i hi=>ho.block i (by have:=B1.out.size;omega) (fun e=>by have:=O1.out.own.base e;omega)⟩)
      have O2:=qH hout
      have D2:=qH hdat
      have L2:=qH (show M2.length<=65536+2 by have h1:=addP_len (M1.map PcE.dat) (t -(t - f)) (pt -(t - f)) pp;have h2:=congrArg List.length hdat;have h3:=L1.out;simp only[List.length_map] at h1 h2;omega)
      clear hp hout hdat ho hnv AD k0 k1 k2
      have k0:=K2.out.cell (j:=0) rfl
      have k1:=K2.out.cell (j:=1) rfl
      have k2:=K2.out.cell (j:=2) rfl
      go_wp2_with fail
      go_roundw
      case rel=>
       refine⟨i+1,M2,by omega,by first|rfl|go_num,O2.out,?_,B2.out⟩
       rw[ST.out]
       unfold delStep
       dsimp only[PcE.dat]
       rw[show min pt f=f by omega,show max pf t=t by omega]
       have h1:=D1.out
       have h2:=D2.out
       rw[h1] at h2
       exact h2
      case measure=>simp[intOf];omega
     ·skip
      have x0:decide (f<pt)=true:=decide_eq_true (by omega)
      have y0:(f<pt)=True:=eq_true (by omega)
      have x1:decide (pf<t)=false:=decide_eq_false (by omega)
      have y1:(pf<t)=False:=eq_false (by omega)
      have hA:=padd O0.out.own B0.out.size (by have:=L0.out;omega) (fun x hx=>⟨(O0.out.lst x hx).1.1,by have:=(O0.out.lst x hx).1.2.1;omega⟩) (XM.out.1.1.up B0.out) (by have:=XM.out.2.len;show pp.length<=1000;have e:(⟨pf,pt,pA,pc,pp⟩:PcE).dat.ps=pp:=rfl;rw[e] at this;omega) pc (pf) (f)
      have AD:=qH hA
      clear hA
      go_wp2_with fail
      refine AD.out.mono ?_
      rintro r w1 hp
      obtain⟨v1,M1,rfl,hout,hdat,ho,hnv⟩:=O0.out.add HR.out B0.out.size (XM.out.1.1.up B0.out) (fun hp g o e=>⟨.inl (XM.out.1.2.1 g o e),fun e2=>by have:=O0.out.own.base e2;have:=HR.out g (XM.out.1.2.1 g o e);omega⟩) (by have:=XM.out.2.len;show pp.length<=65;have e:(⟨pf,pt,pA,pc,pp⟩:PcE).dat.ps=pp:=rfl;rw[e] at this;omega) XM.out.1.2.2 hp
      obtain⟨A1,c1,rfl,_,_,_⟩:=hout.own.shape eltPc
      have K1:=qH (K0.out.only ho (fun e=>V0.out _ e rfl))
      have V1:=qH (show ∀ k,(Value.slice A1 M1.length c1).ownBlock=some k->k=wr.heap.size->False from fun k e e2=>(hnv k e).elim (fun e=>V0.out k e e2) (fun e=>by have:=K0.out.lt;omega))
      have B1:=qH (show Below w.heap.size w w1 from B0.out.trans ⟨ho.os,ho.tape,ho.output,ho.size,fun i hi=>ho.block i (by have:=B0.out.size;omega) (fun e=>by have:=O0.out.own.base e;omega)⟩)
      have O1:=qH hout
      have D1:=qH hdat
      have L1:=qH (show M1.length<=65536+1 by have h1:=addP_len (M.map PcE.dat) (pf) (f) pp;have h2:=congrArg List.length hdat;have h3:=L0.out;simp only[List.length_map] at h1 h2;omega)
      clear hp hout hdat ho hnv AD k0 k1 k2
      have k0:=K1.out.cell (j:=0) rfl
      have k1:=K1.out.cell (j:=1) rfl
      have k2:=K1.out.cell (j:=2) rfl
      have s10:IntKind.i64.wrap (t - f)=t - f:=IntWalk.i64_in _ (by omega)
      have s11:IntKind.i64.wrap (pf -(t - f))=pf -(t - f):=IntWalk.i64_in _ (by omega)
      have s12:IntKind.i64.wrap (pt -(t - f))=pt -(t - f):=IntWalk.i64_in _ (by omega)
      have hA:=padd O1.out.own B1.out.size (by have:=L1.out;omega) (fun x hx=>⟨(O1.out.lst x hx).1.1,by have:=(O1.out.lst x hx).1.2.1;omega⟩) (XM.out.1.1.up B1.out) (by have:=XM.out.2.len;show pp.length<=1000;have e:(⟨pf,pt,pA,pc,pp⟩:PcE).dat.ps=pp:=rfl;rw[e] at this;omega) pc (pf -(t - f)) (pt -(t - f))
      have AD:=qH hA
      clear hA
      go_wp2_with fail
      refine AD.out.mono ?_
      rintro r w2 hp
      obtain⟨v2,M2,rfl,hout,hdat,ho,hnv⟩:=O1.out.add HR.out B1.out.size (XM.out.1.1.up B1.out) (fun hp g o e=>⟨.inl (XM.out.1.2.1 g o e),fun e2=>by have:=O1.out.own.base e2;have:=HR.out g (XM.out.1.2.1 g o e);omega⟩) (by have:=XM.out.2.len;show pp.length<=65;have e:(⟨pf,pt,pA,pc,pp⟩:PcE).dat.ps=pp:=rfl;rw[e] at this;omega) XM.out.1.2.2 hp
      obtain⟨A2,c2,rfl,_,_,_⟩:=hout.own.shape eltPc
      have K2:=qH (K1.out.only ho (fun e=>V1.out _ e rfl))
      have V2:=qH (show ∀ k,(Value.slice A2 M2.length c2).ownBlock=some k->k=wr.heap.size->False from fun k e e2=>(hnv k e).elim (fun e=>V1.out k e e2) (fun e=>by have:=K1.out.lt;omega))
      have B2:=qH (show Below w.heap.size w w2 from B1.out.trans ⟨ho.os,ho.tape,ho.output,ho.size,fun i hi=>ho.block i (by have:=B1.out.size;omega) (fun e=>by have:=O1.out.own.base e;omega)⟩)
      have O2:=qH hout
      have D2:=qH hdat
      have L2:=qH (show M2.length<=65536+2 by have h1:=addP_len (M1.map PcE.dat) (pf -(t - f)) (pt -(t - f)) pp;have h2:=congrArg List.length hdat;have h3:=L1.out;simp only[List.length_map] at h1 h2;omega)
      clear hp hout hdat ho hnv AD k0 k1 k2
      have k0:=K2.out.cell (j:=0) rfl
      have k1:=K2.out.cell (j:=1) rfl
      have k2:=K2.out.cell (j:=2) rfl
      go_wp2_with fail
      go_roundw
      case rel=>
       refine⟨i+1,M2,by omega,by first|rfl|go_num,O2.out,?_,B2.out⟩
       rw[ST.out]
       unfold delStep
       dsimp only[PcE.dat]
       rw[show min pt f=f by omega,show max pf t=pf by omega]
       have h1:=D1.out
       have h2:=D2.out
       rw[h1] at h2
       exact h2
      case measure=>simp[intOf];omega
    ·skip
     have x0:decide (f<pt)=false:=decide_eq_false (by omega)
     have y0:(f<pt)=False:=eq_false (by omega)
     have x1:decide (pf<t)=true:=decide_eq_true (by omega)
     have y1:(pf<t)=True:=eq_true (by omega)
     have hA:=padd O0.out.own B0.out.size (by have:=L0.out;omega) (fun x hx=>⟨(O0.out.lst x hx).1.1,by have:=(O0.out.lst x hx).1.2.1;omega⟩) (XM.out.1.1.up B0.out) (by have:=XM.out.2.len;show pp.length<=1000;have e:(⟨pf,pt,pA,pc,pp⟩:PcE).dat.ps=pp:=rfl;rw[e] at this;omega) pc (pf) (pt)
     have AD:=qH hA
     clear hA
     go_wp2_with fail
     refine AD.out.mono ?_
     rintro r w1 hp
     obtain⟨v1,M1,rfl,hout,hdat,ho,hnv⟩:=O0.out.add HR.out B0.out.size (XM.out.1.1.up B0.out) (fun hp g o e=>⟨.inl (XM.out.1.2.1 g o e),fun e2=>by have:=O0.out.own.base e2;have:=HR.out g (XM.out.1.2.1 g o e);omega⟩) (by have:=XM.out.2.len;show pp.length<=65;have e:(⟨pf,pt,pA,pc,pp⟩:PcE).dat.ps=pp:=rfl;rw[e] at this;omega) XM.out.1.2.2 hp
     obtain⟨A1,c1,rfl,_,_,_⟩:=hout.own.shape eltPc
     have K1:=qH (K0.out.only ho (fun e=>V0.out _ e rfl))
     have V1:=qH (show ∀ k,(Value.slice A1 M1.length c1).ownBlock=some k->k=wr.heap.size->False from fun k e e2=>(hnv k e).elim (fun e=>V0.out k e e2) (fun e=>by have:=K0.out.lt;omega))
     have B1:=qH (show Below w.heap.size w w1 from B0.out.trans ⟨ho.os,ho.tape,ho.output,ho.size,fun i hi=>ho.block i (by have:=B0.out.size;omega) (fun e=>by have:=O0.out.own.base e;omega)⟩)
     have O1:=qH hout
     have D1:=qH hdat
     have L1:=qH (show M1.length<=65536+1 by have h1:=addP_len (M.map PcE.dat) (pf) (pt) pp;have h2:=congrArg List.length hdat;have h3:=L0.out;simp only[List.length_map] at h1 h2;omega)
     clear hp hout hdat ho hnv AD k0 k1 k2
     have k0:=K1.out.cell (j:=0) rfl
     have k1:=K1.out.cell (j:=1) rfl
     have k2:=K1.out.cell (j:=2) rfl
     have s10:IntKind.i64.wrap (t - f)=t - f:=IntWalk.i64_in _ (by omega)
     have s11:IntKind.i64.wrap (t -(t - f))=t -(t - f):=IntWalk.i64_in _ (by omega)
     have s12:IntKind.i64.wrap (pt -(t - f))=pt -(t - f):=IntWalk.i64_in _ (by omega)
     have hA:=padd O1.out.own B1.out.size (by have:=L1.out;omega) (fun x hx=>⟨(O1.out.lst x hx).1.1,by have:=(O1.out.lst x hx).1.2.1;omega⟩) (XM.out.1.1.up B1.out) (by have:=XM.out.2.len;show pp.length<=1000;have e:(⟨pf,pt,pA,pc,pp⟩:PcE).dat.ps=pp:=rfl;rw[e] at this;omega) pc (t -(t - f)) (pt -(t - f))
     have AD:=qH hA
     clear hA
     go_wp2_with fail
     refine AD.out.mono ?_
     rintro r w2 hp
     obtain⟨v2,M2,rfl,hout,hdat,ho,hnv⟩:=O1.out.add HR.out B1.out.size (XM.out.1.1.up B1.out) (fun hp g o e=>⟨.inl (XM.out.1.2.1 g o e),fun e2=>by have:=O1.out.own.base e2;have:=HR.out g (XM.out.1.2.1 g o e);omega⟩) (by have:=XM.out.2.len;show pp.length<=65;have e:(⟨pf,pt,pA,pc,pp⟩:PcE).dat.ps=pp:=rfl;rw[e] at this;omega) XM.out.1.2.2 hp
     obtain⟨A2,c2,rfl,_,_,_⟩:=hout.own.shape eltPc
     have K2:=qH (K1.out.only ho (fun e=>V1.out _ e rfl))
     have V2:=qH (show ∀ k,(Value.slice A2 M2.length c2).ownBlock=some k->k=wr.heap.size->False from fun k e e2=>(hnv k e).elim (fun e=>V1.out k e e2) (fun e=>by have:=K1.out.lt;omega))
     have B2:=qH (show Below w.heap.size w w2 from B1.out.trans ⟨ho.os,ho.tape,ho.output,ho.size,fun i hi=>ho.block i (by have:=B1.out.size;omega) (fun e=>by have:=O1.out.own.base e;omega)⟩)
     have O2:=qH hout
     have D2:=qH hdat
     have L2:=qH (show M2.length<=65536+2 by have h1:=addP_len (M1.map PcE.dat) (t -(t - f)) (pt -(t - f)) pp;have h2:=congrArg List.length hdat;have h3:=L1.out;simp only[List.length_map] at h1 h2;omega)
     clear hp hout hdat ho hnv AD k0 k1 k2
     have k0:=K2.out.cell (j:=0) rfl
     have k1:=K2.out.cell (j:=1) rfl
     have k2:=K2.out.cell (j:=2) rfl
     go_wp2_with fail
     go_roundw
     case rel=>
      refine⟨i+1,M2,by omega,by first|rfl|go_num,O2.out,?_,B2.out⟩
      rw[ST.out]
      unfold delStep
      dsimp only[PcE.dat]
      rw[show min pt f=pt by omega,show max pf t=t by omega]
      have h1:=D1.out
      have h2:=D2.out
      rw[h1] at h2
      exact h2
     case measure=>simp[intOf];omega
   ·have d0:decide ((i:Int)<L.length)=false:=decide_eq_false (by omega)
    have d00:((i:Int)<L.length)=False:=eq_false (by omega)
    have d01:(i<L.length)=False:=eq_false hlt
    obtain rfl:i=L.length:=by omega
    have hkb:=H.out.blk.kept (hbr.block b H.out.blk.lt)
    have f0:=hkb.fz 0
    have cb:=hkb.cell (j:=0) rfl
    have KB:=qH hkb
    clear hout hdat hbr hML hlt hkb
    go_wp2_with fail
    go_ret
    have hd:=DA.out
    rw[List.take_of_length_le (by simp)] at hd
    have hl:=OR.out
    have hok:PcsOk (M.map PcE.dat):=by rw[hd];exact POK.out
    obtain⟨R',hp,hR'⟩:=H.out.put KB.out (by have:=H.out.blk.lt;have:=BR.out.size;omega) (hl.own.low (Nat.zero_le _)) hok (fun e=>by have:=hl.own.base e;have:=H.out.blk.lt;omega) (fun x hx=>⟨⟨(hl.lst x hx).1.1,(hl.lst x hx).1.2.2⟩,fun g o e hp=>(hl.lst x hx).2 hp g o e⟩) HR.out
    refine⟨rfl,_,M,R',hp,?_,?_,fun k hk=>.inr (hl.own.base hk),hR'⟩
    ·rw[hd,PEQ.out]
    ·exact(Only.of_below BR.out).setCell (p:=⟨b,0,none⟩) (.inl rfl) _
set_option maxRecDepth 100000 in
set_option maxHeartbeats 8000000 in
theorem pinserted (h:PrsAt w b v L R) (hR:∀ g,R g->g<w.heap.size) (a n:Int) :
  Calls Tryz.prog 171 #[.pointer (some ⟨b,0,none⟩),.int .i64 a,.int .i64 n] w (PrPost w b v R (.int .i64 (insertedE (L.map PcE.dat) a n)) (insertedP (L.map PcE.dat) a n)):=by
 have HN:=qH (pnone h)
 have hlen:=h.len
 have H:=qH h
 have HR:=qH hR
 obtain⟨Av,c,rfl,hvc,hvm,hRv⟩:=h.own.shape eltPc
 have HS:=qH hRv
 have cz:=h.blk.cell (j:=0) rfl
 have BB:=qH (Below.refl w.heap.size w)
 obtain⟨E,hE⟩:∃ z,z=insertedE (L.map PcE.dat) a n:=⟨_,rfl⟩
 obtain⟨P,hP⟩:∃ z,z=insertedP (L.map PcE.dat) a n:=⟨_,rfl⟩
 rw[<-hE,<-hP]
 have EP:=qH (⟨hE,hP⟩:_/\_)
 have POK:=qH (insertedP_ok (a:=a) (n:=n) h.ok)
 have PU:insertedP (L.map PcE.dat) a n=if insertedE (L.map PcE.dat) a n=0 then (L.map PcE.dat).foldl (insStep a n) [] else L.map PcE.dat:=rfl
 rw[<-hE,<-hP] at PU
 have hEu:E=if a<1\/65537<a then 3 else if n<0\/65536<n then 2 else if insFit (L.map PcE.dat) a n=true then 0 else 3:=hE
 clear hE hP h hR
 by_cases ha:a<1\/65537<a
 ·rw[if_pos ha] at hEu
  rw[hEu,if_neg (by omega)] at PU
  have XX:=qH (⟨hEu,PU⟩:_/\_)
  by_cases ha1:a<1
  ·have x0:decide (a<1)=true:=decide_eq_true ha1
   have y0:(a<1)=True:=eq_true ha1
   clear hEu PU ha ha1 hRv
   go_enter Tryz.func171,Tryz.ntmps171
   go_wp2_with fail
   refine HN.out.mono ?_
   rintro e w1 ⟨rfl,rfl⟩
   go_wp2_with fail
   go_ret
   rw[XX.out.1,XX.out.2]
   exact PrPost.same H.out (Below.refl _ _)
  ·have x0:decide (a<1)=false:=decide_eq_false ha1
   have y0:(a<1)=False:=eq_false ha1
   have x1:decide (65537<a)=true:=decide_eq_true (by omega)
   have y1:(65537<a)=True:=eq_true (by omega)
   clear hEu PU ha ha1 hRv
   go_enter Tryz.func171,Tryz.ntmps171
   go_wp2_with fail
   refine HN.out.mono ?_
   rintro e w1 ⟨rfl,rfl⟩
   go_wp2_with fail
   go_ret
   rw[XX.out.1,XX.out.2]
   exact PrPost.same H.out (Below.refl _ _)
 rw[if_neg ha] at hEu
 have x0:decide (a<1)=false:=decide_eq_false (by omega)
 have y0:(a<1)=False:=eq_false (by omega)
 have x1:decide (65537<a)=false:=decide_eq_false (by omega)
 have y1:(65537<a)=False:=eq_false (by omega)
 have a1:1<=a:=by omega
 have a2:a<=65537:=by omega
 clear ha
 by_cases hn:n<0\/65536<n
 ·rw[if_pos hn] at hEu
  rw[hEu,if_neg (by omega)] at PU
  have XX:=qH (⟨hEu,PU⟩:_/\_)
  by_cases hn1:n<0
  ·have x2:decide (n<0)=true:=decide_eq_true hn1
   have y2:(n<0)=True:=eq_true hn1
   clear hEu PU hn hn1 hRv a1 a2
   go_enter Tryz.func171,Tryz.ntmps171
   go_wp2_with fail
   refine HN.out.mono ?_
   rintro e w1 ⟨rfl,rfl⟩
   go_wp2_with fail
   go_ret
   rw[XX.out.1,XX.out.2]
   exact PrPost.same H.out (Below.refl _ _)
  ·have x2:decide (n<0)=false:=decide_eq_false hn1
   have y2:(n<0)=False:=eq_false hn1
   have x3:decide (65536<n)=true:=decide_eq_true (by omega)
   have y3:(65536<n)=True:=eq_true (by omega)
   clear hEu PU hn hn1 hRv a1 a2
   go_enter Tryz.func171,Tryz.ntmps171
   go_wp2_with fail
   refine HN.out.mono ?_
   rintro e w1 ⟨rfl,rfl⟩
   go_wp2_with fail
   go_ret
   rw[XX.out.1,XX.out.2]
   exact PrPost.same H.out (Below.refl _ _)
 rw[if_neg hn] at hEu
 have x2:decide (n<0)=false:=decide_eq_false (by omega)
 have y2:(n<0)=False:=eq_false (by omega)
 have x3:decide (65536<n)=false:=decide_eq_false (by omega)
 have y3:(65536<n)=False:=eq_false (by omega)
 have n1:0<=n:=by omega
 have n2:n<=65536:=by omega
 clear hn
 have hlast:(L.map PcE.dat).getLast?=(L.map PcE.dat)[L.length - 1]?:=by rw[List.getLast?_eq_getElem?,List.length_map]
 have HW:=qH (fun(hfit:insFit (L.map PcE.dat) a n=true)=>(⟨insFit_le H.out.ok hfit,fun i=>insFold_upto n1 a1 ((L.map PcE.dat).take i) [] 0 (Upto.nil _ _) (H.out.ok.pw.sublist (List.take_sublist _ _)) (fun x hx=>H.out.ok.ok x (List.mem_of_mem_take hx)) (fun x hx=>by have:=(H.out.ok.ok x (List.mem_of_mem_take hx)).f1;omega) (fun x hx=>insFit_le H.out.ok hfit x (List.mem_of_mem_take hx)) (by omega) (by omega)⟩:_/\_))
 have EU:=qH (⟨hEu,PU⟩:_/\_)
 clear hEu PU
 by_cases hL0:L.length=0
 ·have hfit:insFit (L.map PcE.dat) a n=true:=by
   have:L=[]:=List.eq_nil_of_length_eq_zero hL0
   rw[this];rfl
  have s1:IntKind.i64.wrap ((L.length:Int) - 1)=-1:=by rw[IntWalk.i64_in _ (by omega)];omega
  clear hL0 hlast
  have he:=EU.out.1
  have hp:=EU.out.2
  rw[if_pos hfit] at he
  rw[he,if_pos rfl] at hp
  have PEQ:=qH hp.symm
  have POK:=qH (show PcsOk ((L.map PcE.dat).foldl (insStep a n) []) by rw[<-hp];rw[EP.out.2];exact POK.out)
  obtain⟨FIT,HLEN⟩:Hid _/\Hid _:=⟨qH (HW.out hfit).1,qH (HW.out hfit).2⟩
  clear EU EP HW
  subst he
  clear hp hfit hRv
  go_enter Tryz.func171,Tryz.ntmps171
  go_wp2_with fail
  refine HN.out.mono ?_
  rintro e w1 ⟨rfl,rfl⟩
  go_wp2_with fail
  go_loopw [8,68] (fun vo vi wr=>∃(i:Nat) (M:List PcE),i<=L.length/\vi=.int .i64 i/\OutOk wr w.heap.size vo M R/\M.map PcE.dat=((L.map PcE.dat).take i).foldl (insStep a n) []/\Below w.heap.size w wr) (fun _ vi _=>L.length -(intOf vi).toNat)
  case atStart=>exact⟨0,[],by omega,rfl,OutOk.nil _ _ _,rfl,BB.out⟩
  case round=>
   obtain⟨i,M,hi,rfl,hout,hdat,hbr⟩:=hrel
   obtain⟨A0,c0,rfl,_,_,_⟩:=hout.own.shape eltPc
   have OR:=qH hout
   have DA:=qH hdat
   have BR:=qH hbr
   have hML:M.length<=65536:=by
    have h1:=HLEN.out i
    rw[<-hdat,List.length_map] at h1;exact h1
   have HML:=qH hML
   by_cases hlt:i<L.length
   ·obtain⟨⟨pf,pt,pA,pc,pp⟩,hx⟩:∃ x,L[i]?=some x:=⟨_,List.getElem?_eq_getElem hlt⟩
    obtain⟨gg,o,hAe,hgg,hc⟩:=(HS.out.up hbr).at_ eltPc hx
    cases hAe
    have e0:=hc 0 _ rfl
    have e1:=hc 1 _ rfl
    have e2:=hc 2 _ rfl
    simp only[<-Nat.add_assoc,Nat.add_zero] at e0 e1 e2
    have d0:decide ((i:Int)<L.length)=true:=decide_eq_true (by omega)
    have lt1:(i:Int)<L.length:=by omega
    have d01:(i<L.length)=True:=eq_true hlt
    have hxm:=H.out.lst _ (List.mem_of_getElem? hx)
    have hxk:=mem_pieces H.out.ok (List.mem_of_getElem? hx)
    have XM:=qH (⟨hxm,hxk⟩:_/\_)
    have hb6:=below1 wr (.cells #[.int .i64 pf,.int .i64 pt,.slice pA pp.length pc] 190)
    have hk6:=Blk.made wr 190 #[.int .i64 pf,.int .i64 pt,.slice pA pp.length pc]
    have k0:=hk6.cell (j:=0) rfl
    have k1:=hk6.cell (j:=1) rfl
    have k2:=hk6.cell (j:=2) rfl
    have O0:=qH (hout.up hb6)
    have K0:=qH hk6
    have V0:=qH (show ∀ k,(Value.slice A0 M.length c0).ownBlock=some k->k=wr.heap.size->False from fun k e e2=>by have:=hout.own.lt e;omega)
    have B0:=qH (up2 hbr hb6)
    have L0:=qH (show M.length<=65536+0 by omega)
    have hstep:=foldl_succ (f:=insStep a n) (z:=[]) (dat_get hx)
    rw[<-hdat] at hstep
    have ST:=qH hstep
    have hft2:pf<pt:=hxk.ft
    have hf1:1<=pf:=hxk.f1
    have ht1:pt<=65537:=hxk.t1
    have hbn:a<pt->pt+n<=65537:=fun h=>FIT.out _ (List.mem_map_of_mem (List.mem_of_getElem? hx)) h
    clear hc hx hxm hxk hb6 hk6 hout hdat hbr hML hstep hlt
    by_cases hA:a<pt
    ·by_cases hB:pf<a
     ·skip
      have x0:decide (a<pt)=true:=decide_eq_true (by omega)
      have y0:(a<pt)=True:=eq_true (by omega)
      have x1:decide (pf<a)=true:=decide_eq_true (by omega)
      have y1:(pf<a)=True:=eq_true (by omega)
      have hA:=padd O0.out.own B0.out.size (by have:=L0.out;omega) (fun x hx=>⟨(O0.out.lst x hx).1.1,by have:=(O0.out.lst x hx).1.2.1;omega⟩) (XM.out.1.1.up B0.out) (by have:=XM.out.2.len;show pp.length<=1000;have e:(⟨pf,pt,pA,pc,pp⟩:PcE).dat.ps=pp:=rfl;rw[e] at this;omega) pc (pf) (a)
      have AD:=qH hA
      clear hA
      go_wp2_with fail
      refine AD.out.mono ?_
      rintro r w1 hp
      obtain⟨v1,M1,rfl,hout,hdat,ho,hnv⟩:=O0.out.add HR.out B0.out.size (XM.out.1.1.up B0.out) (fun hp g o e=>⟨.inl (XM.out.1.2.1 g o e),fun e2=>by have:=O0.out.own.base e2;have:=HR.out g (XM.out.1.2.1 g o e);omega⟩) (by have:=XM.out.2.len;show pp.length<=65;have e:(⟨pf,pt,pA,pc,pp⟩:PcE).dat.ps=pp:=rfl;rw[e] at this;omega) XM.out.1.2.2 hp
      obtain⟨A1,c1,rfl,_,_,_⟩:=hout.own.shape eltPc
      have K1:=qH (K0.out.only ho (fun e=>V0.out _ e rfl))
      have V1:=qH (show ∀ k,(Value.slice A1 M1.length c1).ownBlock=some k->k=wr.heap.size->False from fun k e e2=>(hnv k e).elim (fun e=>V0.out k e e2) (fun e=>by have:=K0.out.lt;omega))
      have B1:=qH (show Below w.heap.size w w1 from B0.out.trans ⟨ho.os,ho.tape,ho.output,ho.size,fun i hi=>ho.block i (by have:=B0.out.size;omega) (fun e=>by have:=O0.out.own.base e;omega)⟩)
      have O1:=qH hout
      have D1:=qH hdat
      have L1:=qH (show M1.length<=65536+1 by have h1:=addP_len (M.map PcE.dat) (pf) (a) pp;have h2:=congrArg List.length hdat;have h3:=L0.out;simp only[List.length_map] at h1 h2;omega)
      clear hp hout hdat ho hnv AD k0 k1 k2
      have k0:=K1.out.cell (j:=0) rfl
      have k1:=K1.out.cell (j:=1) rfl
      have k2:=K1.out.cell (j:=2) rfl
      have s10:IntKind.i64.wrap (a+n)=a+n:=IntWalk.i64_in _ (by omega)
      have s11:IntKind.i64.wrap (pt+n)=pt+n:=IntWalk.i64_in _ (by omega)
      have hA:=padd O1.out.own B1.out.size (by have:=L1.out;omega) (fun x hx=>⟨(O1.out.lst x hx).1.1,by have:=(O1.out.lst x hx).1.2.1;omega⟩) (XM.out.1.1.up B1.out) (by have:=XM.out.2.len;show pp.length<=1000;have e:(⟨pf,pt,pA,pc,pp⟩:PcE).dat.ps=pp:=rfl;rw[e] at this;omega) pc (a+n) (pt+n)
      have AD:=qH hA
      clear hA
      go_wp2_with fail
      refine AD.out.mono ?_
      rintro r w2 hp
      obtain⟨v2,M2,rfl,hout,hdat,ho,hnv⟩:=O1.out.add HR.out B1.out.size (XM.out.1.1.up B1.out) (fun hp g o e=>⟨.inl (XM.out.1.2.1 g o e),fun e2=>by have:=O1.out.own.base e2;have:=HR.out g (XM.out.1.2.1 g o e);omega⟩) (by have:=XM.out.2.len;show pp.length<=65;have e:(⟨pf,pt,pA,pc,pp⟩:PcE).dat.ps=pp:=rfl;rw[e] at this;omega) XM.out.1.2.2 hp
      obtain⟨A2,c2,rfl,_,_,_⟩:=hout.own.shape eltPc
      have K2:=qH (K1.out.only ho (fun e=>V1.out _ e rfl))
      have V2:=qH (show ∀ k,(Value.slice A2 M2.length c2).ownBlock=some k->k=wr.heap.size->False from fun k e e2=>(hnv k e).elim (fun e=>V1.out k e e2) (fun e=>by have:=K1.out.lt;omega))
      have B2:=qH (show Below w.heap.size w w2 from B1.out.trans ⟨ho.os,ho.tape,ho.output,ho.size,fun i hi=>ho.block i (by have:=B1.out.size;omega) (fun e=>by have:=O1.out.own.base e;omega)⟩)
      have O2:=qH hout
      have D2:=qH hdat
      have L2:=qH (show M2.length<=65536+2 by have h1:=addP_len (M1.map PcE.dat) (a+n) (pt+n) pp;have h2:=congrArg List.length hdat;have h3:=L1.out;simp only[List.length_map] at h1 h2;omega)
      clear hp hout hdat ho hnv AD k0 k1 k2
      have k0:=K2.out.cell (j:=0) rfl
      have k1:=K2.out.cell (j:=1) rfl
      have k2:=K2.out.cell (j:=2) rfl
      go_wp2_with fail
      go_roundw
      case rel=>
       refine⟨i+1,M2,by omega,by first|rfl|go_num,O2.out,?_,B2.out⟩
       rw[ST.out]
       rw[insStep_hi (show(⟨pf,pt,pA,pc,pp⟩:PcE).dat.t > a by show pt > a;omega)]
       dsimp only[PcE.dat]
       rw[show min pt a=a by omega,show max pf a=a by omega]
       have h1:=D1.out
       have h2:=D2.out
       rw[h1] at h2
       exact h2
      case measure=>simp[intOf];omega
     ·skip
      have x0:decide (a<pt)=true:=decide_eq_true (by omega)
      have y0:(a<pt)=True:=eq_true (by omega)
      have x1:decide (pf<a)=false:=decide_eq_false (by omega)
      have y1:(pf<a)=False:=eq_false (by omega)
      have hA:=padd O0.out.own B0.out.size (by have:=L0.out;omega) (fun x hx=>⟨(O0.out.lst x hx).1.1,by have:=(O0.out.lst x hx).1.2.1;omega⟩) (XM.out.1.1.up B0.out) (by have:=XM.out.2.len;show pp.length<=1000;have e:(⟨pf,pt,pA,pc,pp⟩:PcE).dat.ps=pp:=rfl;rw[e] at this;omega) pc (pf) (a)
      have AD:=qH hA
      clear hA
      go_wp2_with fail
      refine AD.out.mono ?_
      rintro r w1 hp
      obtain⟨v1,M1,rfl,hout,hdat,ho,hnv⟩:=O0.out.add HR.out B0.out.size (XM.out.1.1.up B0.out) (fun hp g o e=>⟨.inl (XM.out.1.2.1 g o e),fun e2=>by have:=O0.out.own.base e2;have:=HR.out g (XM.out.1.2.1 g o e);omega⟩) (by have:=XM.out.2.len;show pp.length<=65;have e:(⟨pf,pt,pA,pc,pp⟩:PcE).dat.ps=pp:=rfl;rw[e] at this;omega) XM.out.1.2.2 hp
      obtain⟨A1,c1,rfl,_,_,_⟩:=hout.own.shape eltPc
      have K1:=qH (K0.out.only ho (fun e=>V0.out _ e rfl))
      have V1:=qH (show ∀ k,(Value.slice A1 M1.length c1).ownBlock=some k->k=wr.heap.size->False from fun k e e2=>(hnv k e).elim (fun e=>V0.out k e e2) (fun e=>by have:=K0.out.lt;omega))
      have B1:=qH (show Below w.heap.size w w1 from B0.out.trans ⟨ho.os,ho.tape,ho.output,ho.size,fun i hi=>ho.block i (by have:=B0.out.size;omega) (fun e=>by have:=O0.out.own.base e;omega)⟩)
      have O1:=qH hout
      have D1:=qH hdat
      have L1:=qH (show M1.length<=65536+1 by have h1:=addP_len (M.map PcE.dat) (pf) (a) pp;have h2:=congrArg List.length hdat;have h3:=L0.out;simp only[List.length_map] at h1 h2;omega)
      clear hp hout hdat ho hnv AD k0 k1 k2
      have k0:=K1.out.cell (j:=0) rfl
      have k1:=K1.out.cell (j:=1) rfl
      have k2:=K1.out.cell (j:=2) rfl
      have s10:IntKind.i64.wrap (pf+n)=pf+n:=IntWalk.i64_in _ (by omega)
      have s11:IntKind.i64.wrap (pt+n)=pt+n:=IntWalk.i64_in _ (by omega)
      have hA:=padd O1.out.own B1.out.size (by have:=L1.out;omega) (fun x hx=>⟨(O1.out.lst x hx).1.1,by have:=(O1.out.lst x hx).1.2.1;omega⟩) (XM.out.1.1.up B1.out) (by have:=XM.out.2.len;show pp.length<=1000;have e:(⟨pf,pt,pA,pc,pp⟩:PcE).dat.ps=pp:=rfl;rw[e] at this;omega) pc (pf+n) (pt+n)
      have AD:=qH hA
      clear hA
      go_wp2_with fail
      refine AD.out.mono ?_
      rintro r w2 hp
      obtain⟨v2,M2,rfl,hout,hdat,ho,hnv⟩:=O1.out.add HR.out B1.out.size (XM.out.1.1.up B1.out) (fun hp g o e=>⟨.inl (XM.out.1.2.1 g o e),fun e2=>by have:=O1.out.own.base e2;have:=HR.out g (XM.out.1.2.1 g o e);omega⟩) (by have:=XM.out.2.len;show pp.length<=65;have e:(⟨pf,pt,pA,pc,pp⟩:PcE).dat.ps=pp:=rfl;rw[e] at this;omega) XM.out.1.2.2 hp
      obtain⟨A2,c2,rfl,_,_,_⟩:=hout.own.shape eltPc
      have K2:=qH (K1.out.only ho (fun e=>V1.out _ e rfl))
      have V2:=qH (show ∀ k,(Value.slice A2 M2.length c2).ownBlock=some k->k=wr.heap.size->False from fun k e e2=>(hnv k e).elim (fun e=>V1.out k e e2) (fun e=>by have:=K1.out.lt;omega))
      have B2:=qH (show Below w.heap.size w w2 from B1.out.trans ⟨ho.os,ho.tape,ho.output,ho.size,fun i hi=>ho.block i (by have:=B1.out.size;omega) (fun e=>by have:=O1.out.own.base e;omega)⟩)
      have O2:=qH hout
      have D2:=qH hdat
      have L2:=qH (show M2.length<=65536+2 by have h1:=addP_len (M1.map PcE.dat) (pf+n) (pt+n) pp;have h2:=congrArg List.length hdat;have h3:=L1.out;simp only[List.length_map] at h1 h2;omega)
      clear hp hout hdat ho hnv AD k0 k1 k2
      have k0:=K2.out.cell (j:=0) rfl
      have k1:=K2.out.cell (j:=1) rfl
      have k2:=K2.out.cell (j:=2) rfl
      go_wp2_with fail
      go_roundw
      case rel=>
       refine⟨i+1,M2,by omega,by first|rfl|go_num,O2.out,?_,B2.out⟩
       rw[ST.out]
       rw[insStep_hi (show(⟨pf,pt,pA,pc,pp⟩:PcE).dat.t > a by show pt > a;omega)]
       dsimp only[PcE.dat]
       rw[show min pt a=a by omega,show max pf a=pf by omega]
       have h1:=D1.out
       have h2:=D2.out
       rw[h1] at h2
       exact h2
      case measure=>simp[intOf];omega
    ·skip
     have x0:decide (a<pt)=false:=decide_eq_false (by omega)
     have y0:(a<pt)=False:=eq_false (by omega)
     have hA:=padd O0.out.own B0.out.size (by have:=L0.out;omega) (fun x hx=>⟨(O0.out.lst x hx).1.1,by have:=(O0.out.lst x hx).1.2.1;omega⟩) (XM.out.1.1.up B0.out) (by have:=XM.out.2.len;show pp.length<=1000;have e:(⟨pf,pt,pA,pc,pp⟩:PcE).dat.ps=pp:=rfl;rw[e] at this;omega) pc (pf) (pt)
     have AD:=qH hA
     clear hA
     go_wp2_with fail
     refine AD.out.mono ?_
     rintro r w1 hp
     obtain⟨v1,M1,rfl,hout,hdat,ho,hnv⟩:=O0.out.add HR.out B0.out.size (XM.out.1.1.up B0.out) (fun hp g o e=>⟨.inl (XM.out.1.2.1 g o e),fun e2=>by have:=O0.out.own.base e2;have:=HR.out g (XM.out.1.2.1 g o e);omega⟩) (by have:=XM.out.2.len;show pp.length<=65;have e:(⟨pf,pt,pA,pc,pp⟩:PcE).dat.ps=pp:=rfl;rw[e] at this;omega) XM.out.1.2.2 hp
     obtain⟨A1,c1,rfl,_,_,_⟩:=hout.own.shape eltPc
     have K1:=qH (K0.out.only ho (fun e=>V0.out _ e rfl))
     have V1:=qH (show ∀ k,(Value.slice A1 M1.length c1).ownBlock=some k->k=wr.heap.size->False from fun k e e2=>(hnv k e).elim (fun e=>V0.out k e e2) (fun e=>by have:=K0.out.lt;omega))
     have B1:=qH (show Below w.heap.size w w1 from B0.out.trans ⟨ho.os,ho.tape,ho.output,ho.size,fun i hi=>ho.block i (by have:=B0.out.size;omega) (fun e=>by have:=O0.out.own.base e;omega)⟩)
     have O1:=qH hout
     have D1:=qH hdat
     have L1:=qH (show M1.length<=65536+1 by have h1:=addP_len (M.map PcE.dat) (pf) (pt) pp;have h2:=congrArg List.length hdat;have h3:=L0.out;simp only[List.length_map] at h1 h2;omega)
     clear hp hout hdat ho hnv AD k0 k1 k2
     have k0:=K1.out.cell (j:=0) rfl
     have k1:=K1.out.cell (j:=1) rfl
     have k2:=K1.out.cell (j:=2) rfl
     go_wp2_with fail
     go_roundw
     case rel=>
      refine⟨i+1,M1,by omega,by first|rfl|go_num,O1.out,?_,B1.out⟩
      rw[ST.out]
      rw[insStep_lo (show ¬(⟨pf,pt,pA,pc,pp⟩:PcE).dat.t > a by show ¬ pt > a;omega)]
      dsimp only[PcE.dat]
      rw[show min pt a=pt by omega]
      have h1:=D1.out
      exact h1
     case measure=>simp[intOf];omega
   ·have d0:decide ((i:Int)<L.length)=false:=decide_eq_false (by omega)
    have d00:((i:Int)<L.length)=False:=eq_false (by omega)
    have d01:(i<L.length)=False:=eq_false hlt
    obtain rfl:i=L.length:=by omega
    have hkb:=H.out.blk.kept (hbr.block b H.out.blk.lt)
    have f0:=hkb.fz 0
    have cb:=hkb.cell (j:=0) rfl
    have KB:=qH hkb
    clear hout hdat hbr hML hlt hkb
    go_wp2_with fail
    go_ret
    have hd:=DA.out
    rw[List.take_of_length_le (by simp)] at hd
    have hl:=OR.out
    have hok:PcsOk (M.map PcE.dat):=by rw[hd];exact POK.out
    obtain⟨R',hp,hR'⟩:=H.out.put KB.out (by have:=H.out.blk.lt;have:=BR.out.size;omega) (hl.own.low (Nat.zero_le _)) hok (fun e=>by have:=hl.own.base e;have:=H.out.blk.lt;omega) (fun x hx=>⟨⟨(hl.lst x hx).1.1,(hl.lst x hx).1.2.2⟩,fun g o e hp=>(hl.lst x hx).2 hp g o e⟩) HR.out
    refine⟨rfl,_,M,R',hp,?_,?_,fun k hk=>.inr (hl.own.base hk),hR'⟩
    ·rw[hd,PEQ.out]
    ·exact(Only.of_below BR.out).setCell (p:=⟨b,0,none⟩) (.inl rfl) _
 ·obtain⟨⟨kf,kt,kA,kc,kps⟩,hk⟩:∃ x,L[L.length - 1]?=some x:=⟨_,List.getElem?_eq_getElem (by omega)⟩
  rw[dat_get hk] at hlast
  have hfe:insFit (L.map PcE.dat) a n=!(decide (kt > a) && decide (kt+n > 65537)):=by unfold insFit;rw[hlast];rfl
  obtain⟨gk,ok,rfl,hgk,hck⟩:=hRv.at_ eltPc hk
  have z0:=hck 0 _ rfl
  have z1:=hck 1 _ rfl
  have z2:=hck 2 _ rfl
  have hkk:=mem_pieces H.out.ok (List.mem_of_getElem? hk)
  have hkt1:kt<=65537:=hkk.t1
  have hkt0:kf<kt:=hkk.ft
  have hkt2:1<=kf:=hkk.f1
  simp only[<-Nat.add_assoc,Nat.add_zero] at z0 z1 z2
  obtain⟨m,hm⟩:∃ m,m=L.length - 1:=⟨_,rfl⟩
  rw[<-hm] at z0 z1 z2
  have s1:IntKind.i64.wrap ((L.length:Int) - 1)=(m:Int):=by rw[IntWalk.i64_in _ (by omega)];omega
  have s2:IntKind.i64.wrap (kt+n)=kt+n:=IntWalk.i64_in _ (by omega)
  have lm:(m:Int)<L.length:=by omega
  have g0:decide ((0:Int)<=(m:Int))=true:=decide_eq_true (by omega)
  have g00:((0:Int)<=(m:Int))=True:=eq_true (by omega)
  clear hm hck hk hkk hlast hL0
  by_cases hka:a<kt
  ·have u0:decide (a<kt)=true:=decide_eq_true hka
   have u1:(a<kt)=True:=eq_true hka
   by_cases hkn:65537<kt+n
   ·have u2:decide (65537<kt+n)=true:=decide_eq_true hkn
    have u3:(65537<kt+n)=True:=eq_true hkn
    have hfit:¬ insFit (L.map PcE.dat) a n=true:=by rw[hfe,decide_eq_true (show kt > a from hka),decide_eq_true (show kt+n > 65537 from hkn)];simp
    have HF:=qH hfit
    clear hfit hfe hka hkn hRv
    go_enter Tryz.func171,Tryz.ntmps171
    go_wp2_with fail
    refine HN.out.mono ?_
    rintro e w1 ⟨rfl,rfl⟩
    go_wp2_with fail
    go_ret
    have he:=EU.out.1
    have hp:=EU.out.2
    rw[if_neg HF.out] at he
    rw[he,if_neg (by omega)] at hp
    rw[he,hp]
    exact PrPost.same H.out (Below.refl _ _)
   ·have u2:decide (65537<kt+n)=false:=decide_eq_false hkn
    have u3:(65537<kt+n)=False:=eq_false hkn
    have hfit:insFit (L.map PcE.dat) a n=true:=by rw[hfe,decide_eq_false (show ¬ kt+n > 65537 from hkn)];simp
    clear hfe hka hkn
    have he:=EU.out.1
    have hp:=EU.out.2
    rw[if_pos hfit] at he
    rw[he,if_pos rfl] at hp
    have PEQ:=qH hp.symm
    have POK:=qH (show PcsOk ((L.map PcE.dat).foldl (insStep a n) []) by rw[<-hp];rw[EP.out.2];exact POK.out)
    obtain⟨FIT,HLEN⟩:Hid _/\Hid _:=⟨qH (HW.out hfit).1,qH (HW.out hfit).2⟩
    clear EU EP HW
    subst he
    clear hp hfit hRv
    go_enter Tryz.func171,Tryz.ntmps171
    go_wp2_with fail
    refine HN.out.mono ?_
    rintro e w1 ⟨rfl,rfl⟩
    go_wp2_with fail
    go_loopw [8,68] (fun vo vi wr=>∃(i:Nat) (M:List PcE),i<=L.length/\vi=.int .i64 i/\OutOk wr w.heap.size vo M R/\M.map PcE.dat=((L.map PcE.dat).take i).foldl (insStep a n) []/\Below w.heap.size w wr) (fun _ vi _=>L.length -(intOf vi).toNat)
    case atStart=>exact⟨0,[],by omega,rfl,OutOk.nil _ _ _,rfl,BB.out⟩
    case round=>
     obtain⟨i,M,hi,rfl,hout,hdat,hbr⟩:=hrel
     obtain⟨A0,c0,rfl,_,_,_⟩:=hout.own.shape eltPc
     have OR:=qH hout
     have DA:=qH hdat
     have BR:=qH hbr
     have hML:M.length<=65536:=by
      have h1:=HLEN.out i
      rw[<-hdat,List.length_map] at h1;exact h1
     have HML:=qH hML
     by_cases hlt:i<L.length
     ·obtain⟨⟨pf,pt,pA,pc,pp⟩,hx⟩:∃ x,L[i]?=some x:=⟨_,List.getElem?_eq_getElem hlt⟩
      obtain⟨gg,o,hAe,hgg,hc⟩:=(HS.out.up hbr).at_ eltPc hx
      cases hAe
      have e0:=hc 0 _ rfl
      have e1:=hc 1 _ rfl
      have e2:=hc 2 _ rfl
      simp only[<-Nat.add_assoc,Nat.add_zero] at e0 e1 e2
      have d0:decide ((i:Int)<L.length)=true:=decide_eq_true (by omega)
      have lt1:(i:Int)<L.length:=by omega
      have d01:(i<L.length)=True:=eq_true hlt
      have hxm:=H.out.lst _ (List.mem_of_getElem? hx)
      have hxk:=mem_pieces H.out.ok (List.mem_of_getElem? hx)
      have XM:=qH (⟨hxm,hxk⟩:_/\_)
      have hb6:=below1 wr (.cells #[.int .i64 pf,.int .i64 pt,.slice pA pp.length pc] 190)
      have hk6:=Blk.made wr 190 #[.int .i64 pf,.int .i64 pt,.slice pA pp.length pc]
      have k0:=hk6.cell (j:=0) rfl
      have k1:=hk6.cell (j:=1) rfl
      have k2:=hk6.cell (j:=2) rfl
      have O0:=qH (hout.up hb6)
      have K0:=qH hk6
      have V0:=qH (show ∀ k,(Value.slice A0 M.length c0).ownBlock=some k->k=wr.heap.size->False from fun k e e2=>by have:=hout.own.lt e;omega)
      have B0:=qH (up2 hbr hb6)
      have L0:=qH (show M.length<=65536+0 by omega)
      have hstep:=foldl_succ (f:=insStep a n) (z:=[]) (dat_get hx)
      rw[<-hdat] at hstep
      have ST:=qH hstep
      have hft2:pf<pt:=hxk.ft
      have hf1:1<=pf:=hxk.f1
      have ht1:pt<=65537:=hxk.t1
      have hbn:a<pt->pt+n<=65537:=fun h=>FIT.out _ (List.mem_map_of_mem (List.mem_of_getElem? hx)) h
      clear hc hx hxm hxk hb6 hk6 hout hdat hbr hML hstep hlt
      by_cases hA:a<pt
      ·by_cases hB:pf<a
       ·skip
        have x0:decide (a<pt)=true:=decide_eq_true (by omega)
        have y0:(a<pt)=True:=eq_true (by omega)
        have x1:decide (pf<a)=true:=decide_eq_true (by omega)
        have y1:(pf<a)=True:=eq_true (by omega)
        have hA:=padd O0.out.own B0.out.size (by have:=L0.out;omega) (fun x hx=>⟨(O0.out.lst x hx).1.1,by have:=(O0.out.lst x hx).1.2.1;omega⟩) (XM.out.1.1.up B0.out) (by have:=XM.out.2.len;show pp.length<=1000;have e:(⟨pf,pt,pA,pc,pp⟩:PcE).dat.ps=pp:=rfl;rw[e] at this;omega) pc (pf) (a)
        have AD:=qH hA
        clear hA
        go_wp2_with fail
        refine AD.out.mono ?_
        rintro r w1 hp
        obtain⟨v1,M1,rfl,hout,hdat,ho,hnv⟩:=O0.out.add HR.out B0.out.size (XM.out.1.1.up B0.out) (fun hp g o e=>⟨.inl (XM.out.1.2.1 g o e),fun e2=>by have:=O0.out.own.base e2;have:=HR.out g (XM.out.1.2.1 g o e);omega⟩) (by have:=XM.out.2.len;show pp.length<=65;have e:(⟨pf,pt,pA,pc,pp⟩:PcE).dat.ps=pp:=rfl;rw[e] at this;omega) XM.out.1.2.2 hp
        obtain⟨A1,c1,rfl,_,_,_⟩:=hout.own.shape eltPc
        have K1:=qH (K0.out.only ho (fun e=>V0.out _ e rfl))
        have V1:=qH (show ∀ k,(Value.slice A1 M1.length c1).ownBlock=some k->k=wr.heap.size->False from fun k e e2=>(hnv k e).elim (fun e=>V0.out k e e2) (fun e=>by have:=K0.out.lt;omega))
        have B1:=qH (show Below w.heap.size w w1 from B0.out.trans ⟨ho.os,ho.tape,ho.output,ho.size,fun i hi=>ho.block i (by have:=B0.out.size;omega) (fun e=>by have:=O0.out.own.base e;omega)⟩)
        have O1:=qH hout
        have D1:=qH hdat
        have L1:=qH (show M1.length<=65536+1 by have h1:=addP_len (M.map PcE.dat) (pf) (a) pp;have h2:=congrArg List.length hdat;have h3:=L0.out;simp only[List.length_map] at h1 h2;omega)
        clear hp hout hdat ho hnv AD k0 k1 k2
        have k0:=K1.out.cell (j:=0) rfl
        have k1:=K1.out.cell (j:=1) rfl
        have k2:=K1.out.cell (j:=2) rfl
        have s10:IntKind.i64.wrap (a+n)=a+n:=IntWalk.i64_in _ (by omega)
        have s11:IntKind.i64.wrap (pt+n)=pt+n:=IntWalk.i64_in _ (by omega)
        have hA:=padd O1.out.own B1.out.size (by have:=L1.out;omega) (fun x hx=>⟨(O1.out.lst x hx).1.1,by have:=(O1.out.lst x hx).1.2.1;omega⟩) (XM.out.1.1.up B1.out) (by have:=XM.out.2.len;show pp.length<=1000;have e:(⟨pf,pt,pA,pc,pp⟩:PcE).dat.ps=pp:=rfl;rw[e] at this;omega) pc (a+n) (pt+n)
        have AD:=qH hA
        clear hA
        go_wp2_with fail
        refine AD.out.mono ?_
        rintro r w2 hp
        obtain⟨v2,M2,rfl,hout,hdat,ho,hnv⟩:=O1.out.add HR.out B1.out.size (XM.out.1.1.up B1.out) (fun hp g o e=>⟨.inl (XM.out.1.2.1 g o e),fun e2=>by have:=O1.out.own.base e2;have:=HR.out g (XM.out.1.2.1 g o e);omega⟩) (by have:=XM.out.2.len;show pp.length<=65;have e:(⟨pf,pt,pA,pc,pp⟩:PcE).dat.ps=pp:=rfl;rw[e] at this;omega) XM.out.1.2.2 hp
        obtain⟨A2,c2,rfl,_,_,_⟩:=hout.own.shape eltPc
        have K2:=qH (K1.out.only ho (fun e=>V1.out _ e rfl))
        have V2:=qH (show ∀ k,(Value.slice A2 M2.length c2).ownBlock=some k->k=wr.heap.size->False from fun k e e2=>(hnv k e).elim (fun e=>V1.out k e e2) (fun e=>by have:=K1.out.lt;omega))
        have B2:=qH (show Below w.heap.size w w2 from B1.out.trans ⟨ho.os,ho.tape,ho.output,ho.size,fun i hi=>ho.block i (by have:=B1.out.size;omega) (fun e=>by have:=O1.out.own.base e;omega)⟩)
        have O2:=qH hout
        have D2:=qH hdat
        have L2:=qH (show M2.length<=65536+2 by have h1:=addP_len (M1.map PcE.dat) (a+n) (pt+n) pp;have h2:=congrArg List.length hdat;have h3:=L1.out;simp only[List.length_map] at h1 h2;omega)
        clear hp hout hdat ho hnv AD k0 k1 k2
        have k0:=K2.out.cell (j:=0) rfl
        have k1:=K2.out.cell (j:=1) rfl
        have k2:=K2.out.cell (j:=2) rfl
        go_wp2_with fail
        go_roundw
        case rel=>
         refine⟨i+1,M2,by omega,by first|rfl|go_num,O2.out,?_,B2.out⟩
         rw[ST.out]
         rw[insStep_hi (show(⟨pf,pt,pA,pc,pp⟩:PcE).dat.t > a by show pt > a;omega)]
         dsimp only[PcE.dat]
         rw[show min pt a=a by omega,show max pf a=a by omega]
         have h1:=D1.out
         have h2:=D2.out
         rw[h1] at h2
         exact h2
        case measure=>simp[intOf];omega
       ·skip
        have x0:decide (a<pt)=true:=decide_eq_true (by omega)
        have y0:(a<pt)=True:=eq_true (by omega)
        have x1:decide (pf<a)=false:=decide_eq_false (by omega)
        have y1:(pf<a)=False:=eq_false (by omega)
        have hA:=padd O0.out.own B0.out.size (by have:=L0.out;omega) (fun x hx=>⟨(O0.out.lst x hx).1.1,by have:=(O0.out.lst x hx).1.2.1;omega⟩) (XM.out.1.1.up B0.out) (by have:=XM.out.2.len;show pp.length<=1000;have e:(⟨pf,pt,pA,pc,pp⟩:PcE).dat.ps=pp:=rfl;rw[e] at this;omega) pc (pf) (a)
        have AD:=qH hA
        clear hA
        go_wp2_with fail
        refine AD.out.mono ?_
        rintro r w1 hp
        obtain⟨v1,M1,rfl,hout,hdat,ho,hnv⟩:=O0.out.add HR.out B0.out.size (XM.out.1.1.up B0.out) (fun hp g o e=>⟨.inl (XM.out.1.2.1 g o e),fun e2=>by have:=O0.out.own.base e2;have:=HR.out g (XM.out.1.2.1 g o e);omega⟩) (by have:=XM.out.2.len;show pp.length<=65;have e:(⟨pf,pt,pA,pc,pp⟩:PcE).dat.ps=pp:=rfl;rw[e] at this;omega) XM.out.1.2.2 hp
        obtain⟨A1,c1,rfl,_,_,_⟩:=hout.own.shape eltPc
        have K1:=qH (K0.out.only ho (fun e=>V0.out _ e rfl))
        have V1:=qH (show ∀ k,(Value.slice A1 M1.length c1).ownBlock=some k->k=wr.heap.size->False from fun k e e2=>(hnv k e).elim (fun e=>V0.out k e e2) (fun e=>by have:=K0.out.lt;omega))
        have B1:=qH (show Below w.heap.size w w1 from B0.out.trans ⟨ho.os,ho.tape,ho.output,ho.size,fun i hi=>ho.block i (by have:=B0.out.size;omega) (fun e=>by have:=O0.out.own.base e;omega)⟩)
        have O1:=qH hout
        have D1:=qH hdat
        have L1:=qH (show M1.length<=65536+1 by have h1:=addP_len (M.map PcE.dat) (pf) (a) pp;have h2:=congrArg List.length hdat;have h3:=L0.out;simp only[List.length_map] at h1 h2;omega)
        clear hp hout hdat ho hnv AD k0 k1 k2
        have k0:=K1.out.cell (j:=0) rfl
        have k1:=K1.out.cell (j:=1) rfl
        have k2:=K1.out.cell (j:=2) rfl
        have s10:IntKind.i64.wrap (pf+n)=pf+n:=IntWalk.i64_in _ (by omega)
        have s11:IntKind.i64.wrap (pt+n)=pt+n:=IntWalk.i64_in _ (by omega)
        have hA:=padd O1.out.own B1.out.size (by have:=L1.out;omega) (fun x hx=>⟨(O1.out.lst x hx).1.1,by have:=(O1.out.lst x hx).1.2.1;omega⟩) (XM.out.1.1.up B1.out) (by have:=XM.out.2.len;show pp.length<=1000;have e:(⟨pf,pt,pA,pc,pp⟩:PcE).dat.ps=pp:=rfl;rw[e] at this;omega) pc (pf+n) (pt+n)
        have AD:=qH hA
        clear hA
        go_wp2_with fail
        refine AD.out.mono ?_
        rintro r w2 hp
        obtain⟨v2,M2,rfl,hout,hdat,ho,hnv⟩:=O1.out.add HR.out B1.out.size (XM.out.1.1.up B1.out) (fun hp g o e=>⟨.inl (XM.out.1.2.1 g o e),fun e2=>by have:=O1.out.own.base e2;have:=HR.out g (XM.out.1.2.1 g o e);omega⟩) (by have:=XM.out.2.len;show pp.length<=65;have e:(⟨pf,pt,pA,pc,pp⟩:PcE).dat.ps=pp:=rfl;rw[e] at this;omega) XM.out.1.2.2 hp
        obtain⟨A2,c2,rfl,_,_,_⟩:=hout.own.shape eltPc
        have K2:=qH (K1.out.only ho (fun e=>V1.out _ e rfl))
        have V2:=qH (show ∀ k,(Value.slice A2 M2.length c2).ownBlock=some k->k=wr.heap.size->False from fun k e e2=>(hnv k e).elim (fun e=>V1.out k e e2) (fun e=>by have:=K1.out.lt;omega))
        have B2:=qH (show Below w.heap.size w w2 from B1.out.trans ⟨ho.os,ho.tape,ho.output,ho.size,fun i hi=>ho.block i (by have:=B1.out.size;omega) (fun e=>by have:=O1.out.own.base e;omega)⟩)
        have O2:=qH hout
        have D2:=qH hdat
        have L2:=qH (show M2.length<=65536+2 by have h1:=addP_len (M1.map PcE.dat) (pf+n) (pt+n) pp;have h2:=congrArg List.length hdat;have h3:=L1.out;simp only[List.length_map] at h1 h2;omega)
        clear hp hout hdat ho hnv AD k0 k1 k2
        have k0:=K2.out.cell (j:=0) rfl
        have k1:=K2.out.cell (j:=1) rfl
        have k2:=K2.out.cell (j:=2) rfl
        go_wp2_with fail
        go_roundw
        case rel=>
         refine⟨i+1,M2,by omega,by first|rfl|go_num,O2.out,?_,B2.out⟩
         rw[ST.out]
         rw[insStep_hi (show(⟨pf,pt,pA,pc,pp⟩:PcE).dat.t > a by show pt > a;omega)]
         dsimp only[PcE.dat]
         rw[show min pt a=a by omega,show max pf a=pf by omega]
         have h1:=D1.out
         have h2:=D2.out
         rw[h1] at h2
         exact h2
        case measure=>simp[intOf];omega
      ·skip
       have x0:decide (a<pt)=false:=decide_eq_false (by omega)
       have y0:(a<pt)=False:=eq_false (by omega)
       have hA:=padd O0.out.own B0.out.size (by have:=L0.out;omega) (fun x hx=>⟨(O0.out.lst x hx).1.1,by have:=(O0.out.lst x hx).1.2.1;omega⟩) (XM.out.1.1.up B0.out) (by have:=XM.out.2.len;show pp.length<=1000;have e:(⟨pf,pt,pA,pc,pp⟩:PcE).dat.ps=pp:=rfl;rw[e] at this;omega) pc (pf) (pt)
       have AD:=qH hA
       clear hA
       go_wp2_with fail
       refine AD.out.mono ?_
       rintro r w1 hp
       obtain⟨v1,M1,rfl,hout,hdat,ho,hnv⟩:=O0.out.add HR.out B0.out.size (XM.out.1.1.up B0.out) (fun hp g o e=>⟨.inl (XM.out.1.2.1 g o e),fun e2=>by have:=O0.out.own.base e2;have:=HR.out g (XM.out.1.2.1 g o e);omega⟩) (by have:=XM.out.2.len;show pp.length<=65;have e:(⟨pf,pt,pA,pc,pp⟩:PcE).dat.ps=pp:=rfl;rw[e] at this;omega) XM.out.1.2.2 hp
       obtain⟨A1,c1,rfl,_,_,_⟩:=hout.own.shape eltPc
       have K1:=qH (K0.out.only ho (fun e=>V0.out _ e rfl))
       have V1:=qH (show ∀ k,(Value.slice A1 M1.length c1).ownBlock=some k->k=wr.heap.size->False from fun k e e2=>(hnv k e).elim (fun e=>V0.out k e e2) (fun e=>by have:=K0.out.lt;omega))
       have B1:=qH (show Below w.heap.size w w1 from B0.out.trans ⟨ho.os,ho.tape,ho.output,ho.size,fun i hi=>ho.block i (by have:=B0.out.size;omega) (fun e=>by have:=O0.out.own.base e;omega)⟩)
       have O1:=qH hout
       have D1:=qH hdat
       have L1:=qH (show M1.length<=65536+1 by have h1:=addP_len (M.map PcE.dat) (pf) (pt) pp;have h2:=congrArg List.length hdat;have h3:=L0.out;simp only[List.length_map] at h1 h2;omega)
       clear hp hout hdat ho hnv AD k0 k1 k2
       have k0:=K1.out.cell (j:=0) rfl
       have k1:=K1.out.cell (j:=1) rfl
       have k2:=K1.out.cell (j:=2) rfl
       go_wp2_with fail
       go_roundw
       case rel=>
        refine⟨i+1,M1,by omega,by first|rfl|go_num,O1.out,?_,B1.out⟩
        rw[ST.out]
        rw[insStep_lo (show ¬(⟨pf,pt,pA,pc,pp⟩:PcE).dat.t > a by show ¬ pt > a;omega)]
        dsimp only[PcE.dat]
        rw[show min pt a=pt by omega]
        have h1:=D1.out
        exact h1
       case measure=>simp[intOf];omega
     ·have d0:decide ((i:Int)<L.length)=false:=decide_eq_false (by omega)
      have d00:((i:Int)<L.length)=False:=eq_false (by omega)
      have d01:(i<L.length)=False:=eq_false hlt
      obtain rfl:i=L.length:=by omega
      have hkb:=H.out.blk.kept (hbr.block b H.out.blk.lt)
      have f0:=hkb.fz 0
      have cb:=hkb.cell (j:=0) rfl
      have KB:=qH hkb
      clear hout hdat hbr hML hlt hkb
      go_wp2_with fail
      go_ret
      have hd:=DA.out
      rw[List.take_of_length_le (by simp)] at hd
      have hl:=OR.out
      have hok:PcsOk (M.map PcE.dat):=by rw[hd];exact POK.out
      obtain⟨R',hp,hR'⟩:=H.out.put KB.out (by have:=H.out.blk.lt;have:=BR.out.size;omega) (hl.own.low (Nat.zero_le _)) hok (fun e=>by have:=hl.own.base e;have:=H.out.blk.lt;omega) (fun x hx=>⟨⟨(hl.lst x hx).1.1,(hl.lst x hx).1.2.2⟩,fun g o e hp=>(hl.lst x hx).2 hp g o e⟩) HR.out
      refine⟨rfl,_,M,R',hp,?_,?_,fun k hk=>.inr (hl.own.base hk),hR'⟩
      ·rw[hd,PEQ.out]
      ·exact(Only.of_below BR.out).setCell (p:=⟨b,0,none⟩) (.inl rfl) _
  ·have u0:decide (a<kt)=false:=decide_eq_false hka
   have u1:(a<kt)=False:=eq_false hka
   have hfit:insFit (L.map PcE.dat) a n=true:=by rw[hfe,decide_eq_false (show ¬ kt > a from hka)];simp
   clear hfe hka
   have he:=EU.out.1
   have hp:=EU.out.2
   rw[if_pos hfit] at he
   rw[he,if_pos rfl] at hp
   have PEQ:=qH hp.symm
   have POK:=qH (show PcsOk ((L.map PcE.dat).foldl (insStep a n) []) by rw[<-hp];rw[EP.out.2];exact POK.out)
   obtain⟨FIT,HLEN⟩:Hid _/\Hid _:=⟨qH (HW.out hfit).1,qH (HW.out hfit).2⟩
   clear EU EP HW
   subst he
   clear hp hfit hRv
   go_enter Tryz.func171,Tryz.ntmps171
   go_wp2_with fail
   refine HN.out.mono ?_
   rintro e w1 ⟨rfl,rfl⟩
   go_wp2_with fail
   go_loopw [8,68] (fun vo vi wr=>∃(i:Nat) (M:List PcE),i<=L.length/\vi=.int .i64 i/\OutOk wr w.heap.size vo M R/\M.map PcE.dat=((L.map PcE.dat).take i).foldl (insStep a n) []/\Below w.heap.size w wr) (fun _ vi _=>L.length -(intOf vi).toNat)
   case atStart=>exact⟨0,[],by omega,rfl,OutOk.nil _ _ _,rfl,BB.out⟩
   case round=>
    obtain⟨i,M,hi,rfl,hout,hdat,hbr⟩:=hrel
    obtain⟨A0,c0,rfl,_,_,_⟩:=hout.own.shape eltPc
    have OR:=qH hout
    have DA:=qH hdat
    have BR:=qH hbr
    have hML:M.length<=65536:=by
     have h1:=HLEN.out i
     rw[<-hdat,List.length_map] at h1;exact h1
    have HML:=qH hML
    by_cases hlt:i<L.length
    ·obtain⟨⟨pf,pt,pA,pc,pp⟩,hx⟩:∃ x,L[i]?=some x:=⟨_,List.getElem?_eq_getElem hlt⟩
     obtain⟨gg,o,hAe,hgg,hc⟩:=(HS.out.up hbr).at_ eltPc hx
     cases hAe
     have e0:=hc 0 _ rfl
     have e1:=hc 1 _ rfl
     have e2:=hc 2 _ rfl
     simp only[<-Nat.add_assoc,Nat.add_zero] at e0 e1 e2
     have d0:decide ((i:Int)<L.length)=true:=decide_eq_true (by omega)
     have lt1:(i:Int)<L.length:=by omega
     have d01:(i<L.length)=True:=eq_true hlt
     have hxm:=H.out.lst _ (List.mem_of_getElem? hx)
     have hxk:=mem_pieces H.out.ok (List.mem_of_getElem? hx)
     have XM:=qH (⟨hxm,hxk⟩:_/\_)
     have hb6:=below1 wr (.cells #[.int .i64 pf,.int .i64 pt,.slice pA pp.length pc] 190)
     have hk6:=Blk.made wr 190 #[.int .i64 pf,.int .i64 pt,.slice pA pp.length pc]
     have k0:=hk6.cell (j:=0) rfl
     have k1:=hk6.cell (j:=1) rfl
     have k2:=hk6.cell (j:=2) rfl
     have O0:=qH (hout.up hb6)
     have K0:=qH hk6
     have V0:=qH (show ∀ k,(Value.slice A0 M.length c0).ownBlock=some k->k=wr.heap.size->False from fun k e e2=>by have:=hout.own.lt e;omega)
     have B0:=qH (up2 hbr hb6)
     have L0:=qH (show M.length<=65536+0 by omega)
     have hstep:=foldl_succ (f:=insStep a n) (z:=[]) (dat_get hx)
     rw[<-hdat] at hstep
     have ST:=qH hstep
     have hft2:pf<pt:=hxk.ft
     have hf1:1<=pf:=hxk.f1
     have ht1:pt<=65537:=hxk.t1
     have hbn:a<pt->pt+n<=65537:=fun h=>FIT.out _ (List.mem_map_of_mem (List.mem_of_getElem? hx)) h
     clear hc hx hxm hxk hb6 hk6 hout hdat hbr hML hstep hlt
     by_cases hA:a<pt
     ·by_cases hB:pf<a
      ·skip
       have x0:decide (a<pt)=true:=decide_eq_true (by omega)
       have y0:(a<pt)=True:=eq_true (by omega)
       have x1:decide (pf<a)=true:=decide_eq_true (by omega)
       have y1:(pf<a)=True:=eq_true (by omega)
       have hA:=padd O0.out.own B0.out.size (by have:=L0.out;omega) (fun x hx=>⟨(O0.out.lst x hx).1.1,by have:=(O0.out.lst x hx).1.2.1;omega⟩) (XM.out.1.1.up B0.out) (by have:=XM.out.2.len;show pp.length<=1000;have e:(⟨pf,pt,pA,pc,pp⟩:PcE).dat.ps=pp:=rfl;rw[e] at this;omega) pc (pf) (a)
       have AD:=qH hA
       clear hA
       go_wp2_with fail
       refine AD.out.mono ?_
       rintro r w1 hp
       obtain⟨v1,M1,rfl,hout,hdat,ho,hnv⟩:=O0.out.add HR.out B0.out.size (XM.out.1.1.up B0.out) (fun hp g o e=>⟨.inl (XM.out.1.2.1 g o e),fun e2=>by have:=O0.out.own.base e2;have:=HR.out g (XM.out.1.2.1 g o e);omega⟩) (by have:=XM.out.2.len;show pp.length<=65;have e:(⟨pf,pt,pA,pc,pp⟩:PcE).dat.ps=pp:=rfl;rw[e] at this;omega) XM.out.1.2.2 hp
       obtain⟨A1,c1,rfl,_,_,_⟩:=hout.own.shape eltPc
       have K1:=qH (K0.out.only ho (fun e=>V0.out _ e rfl))
       have V1:=qH (show ∀ k,(Value.slice A1 M1.length c1).ownBlock=some k->k=wr.heap.size->False from fun k e e2=>(hnv k e).elim (fun e=>V0.out k e e2) (fun e=>by have:=K0.out.lt;omega))
       have B1:=qH (show Below w.heap.size w w1 from B0.out.trans ⟨ho.os,ho.tape,ho.output,ho.size,fun i hi=>ho.block i (by have:=B0.out.size;omega) (fun e=>by have:=O0.out.own.base e;omega)⟩)
       have O1:=qH hout
       have D1:=qH hdat
       have L1:=qH (show M1.length<=65536+1 by have h1:=addP_len (M.map PcE.dat) (pf) (a) pp;have h2:=congrArg List.length hdat;have h3:=L0.out;simp only[List.length_map] at h1 h2;omega)
       clear hp hout hdat ho hnv AD k0 k1 k2
       have k0:=K1.out.cell (j:=0) rfl
       have k1:=K1.out.cell (j:=1) rfl
       have k2:=K1.out.cell (j:=2) rfl
       have s10:IntKind.i64.wrap (a+n)=a+n:=IntWalk.i64_in _ (by omega)
       have s11:IntKind.i64.wrap (pt+n)=pt+n:=IntWalk.i64_in _ (by omega)
       have hA:=padd O1.out.own B1.out.size (by have:=L1.out;omega) (fun x hx=>⟨(O1.out.lst x hx).1.1,by have:=(O1.out.lst x hx).1.2.1;omega⟩) (XM.out.1.1.up B1.out) (by have:=XM.out.2.len;show pp.length<=1000;have e:(⟨pf,pt,pA,pc,pp⟩:PcE).dat.ps=pp:=rfl;rw[e] at this;omega) pc (a+n) (pt+n)
       have AD:=qH hA
       clear hA
       go_wp2_with fail
       refine AD.out.mono ?_
       rintro r w2 hp
       obtain⟨v2,M2,rfl,hout,hdat,ho,hnv⟩:=O1.out.add HR.out B1.out.size (XM.out.1.1.up B1.out) (fun hp g o e=>⟨.inl (XM.out.1.2.1 g o e),fun e2=>by have:=O1.out.own.base e2;have:=HR.out g (XM.out.1.2.1 g o e);omega⟩) (by have:=XM.out.2.len;show pp.length<=65;have e:(⟨pf,pt,pA,pc,pp⟩:PcE).dat.ps=pp:=rfl;rw[e] at this;omega) XM.out.1.2.2 hp
       obtain⟨A2,c2,rfl,_,_,_⟩:=hout.own.shape eltPc
       have K2:=qH (K1.out.only ho (fun e=>V1.out _ e rfl))
       have V2:=qH (show ∀ k,(Value.slice A2 M2.length c2).ownBlock=some k->k=wr.heap.size->False from fun k e e2=>(hnv k e).elim (fun e=>V1.out k e e2) (fun e=>by have:=K1.out.lt;omega))
       have B2:=qH (show Below w.heap.size w w2 from B1.out.trans ⟨ho.os,ho.tape,ho.output,ho.size,fun i hi=>ho.block i (by have:=B1.out.size;omega) (fun e=>by have:=O1.out.own.base e;omega)⟩)
       have O2:=qH hout
       have D2:=qH hdat
       have L2:=qH (show M2.length<=65536+2 by have h1:=addP_len (M1.map PcE.dat) (a+n) (pt+n) pp;have h2:=congrArg List.length hdat;have h3:=L1.out;simp only[List.length_map] at h1 h2;omega)
       clear hp hout hdat ho hnv AD k0 k1 k2
       have k0:=K2.out.cell (j:=0) rfl
       have k1:=K2.out.cell (j:=1) rfl
       have k2:=K2.out.cell (j:=2) rfl
       go_wp2_with fail
       go_roundw
       case rel=>
        refine⟨i+1,M2,by omega,by first|rfl|go_num,O2.out,?_,B2.out⟩
        rw[ST.out]
        rw[insStep_hi (show(⟨pf,pt,pA,pc,pp⟩:PcE).dat.t > a by show pt > a;omega)]
        dsimp only[PcE.dat]
        rw[show min pt a=a by omega,show max pf a=a by omega]
        have h1:=D1.out
        have h2:=D2.out
        rw[h1] at h2
        exact h2
       case measure=>simp[intOf];omega
      ·skip
       have x0:decide (a<pt)=true:=decide_eq_true (by omega)
       have y0:(a<pt)=True:=eq_true (by omega)
       have x1:decide (pf<a)=false:=decide_eq_false (by omega)
       have y1:(pf<a)=False:=eq_false (by omega)
       have hA:=padd O0.out.own B0.out.size (by have:=L0.out;omega) (fun x hx=>⟨(O0.out.lst x hx).1.1,by have:=(O0.out.lst x hx).1.2.1;omega⟩) (XM.out.1.1.up B0.out) (by have:=XM.out.2.len;show pp.length<=1000;have e:(⟨pf,pt,pA,pc,pp⟩:PcE).dat.ps=pp:=rfl;rw[e] at this;omega) pc (pf) (a)
       have AD:=qH hA
       clear hA
       go_wp2_with fail
       refine AD.out.mono ?_
       rintro r w1 hp
       obtain⟨v1,M1,rfl,hout,hdat,ho,hnv⟩:=O0.out.add HR.out B0.out.size (XM.out.1.1.up B0.out) (fun hp g o e=>⟨.inl (XM.out.1.2.1 g o e),fun e2=>by have:=O0.out.own.base e2;have:=HR.out g (XM.out.1.2.1 g o e);omega⟩) (by have:=XM.out.2.len;show pp.length<=65;have e:(⟨pf,pt,pA,pc,pp⟩:PcE).dat.ps=pp:=rfl;rw[e] at this;omega) XM.out.1.2.2 hp
       obtain⟨A1,c1,rfl,_,_,_⟩:=hout.own.shape eltPc
       have K1:=qH (K0.out.only ho (fun e=>V0.out _ e rfl))
       have V1:=qH (show ∀ k,(Value.slice A1 M1.length c1).ownBlock=some k->k=wr.heap.size->False from fun k e e2=>(hnv k e).elim (fun e=>V0.out k e e2) (fun e=>by have:=K0.out.lt;omega))
       have B1:=qH (show Below w.heap.size w w1 from B0.out.trans ⟨ho.os,ho.tape,ho.output,ho.size,fun i hi=>ho.block i (by have:=B0.out.size;omega) (fun e=>by have:=O0.out.own.base e;omega)⟩)
       have O1:=qH hout
       have D1:=qH hdat
       have L1:=qH (show M1.length<=65536+1 by have h1:=addP_len (M.map PcE.dat) (pf) (a) pp;have h2:=congrArg List.length hdat;have h3:=L0.out;simp only[List.length_map] at h1 h2;omega)
       clear hp hout hdat ho hnv AD k0 k1 k2
       have k0:=K1.out.cell (j:=0) rfl
       have k1:=K1.out.cell (j:=1) rfl
       have k2:=K1.out.cell (j:=2) rfl
       have s10:IntKind.i64.wrap (pf+n)=pf+n:=IntWalk.i64_in _ (by omega)
       have s11:IntKind.i64.wrap (pt+n)=pt+n:=IntWalk.i64_in _ (by omega)
       have hA:=padd O1.out.own B1.out.size (by have:=L1.out;omega) (fun x hx=>⟨(O1.out.lst x hx).1.1,by have:=(O1.out.lst x hx).1.2.1;omega⟩) (XM.out.1.1.up B1.out) (by have:=XM.out.2.len;show pp.length<=1000;have e:(⟨pf,pt,pA,pc,pp⟩:PcE).dat.ps=pp:=rfl;rw[e] at this;omega) pc (pf+n) (pt+n)
       have AD:=qH hA
       clear hA
       go_wp2_with fail
       refine AD.out.mono ?_
       rintro r w2 hp
       obtain⟨v2,M2,rfl,hout,hdat,ho,hnv⟩:=O1.out.add HR.out B1.out.size (XM.out.1.1.up B1.out) (fun hp g o e=>⟨.inl (XM.out.1.2.1 g o e),fun e2=>by have:=O1.out.own.base e2;have:=HR.out g (XM.out.1.2.1 g o e);omega⟩) (by have:=XM.out.2.len;show pp.length<=65;have e:(⟨pf,pt,pA,pc,pp⟩:PcE).dat.ps=pp:=rfl;rw[e] at this;omega) XM.out.1.2.2 hp
       obtain⟨A2,c2,rfl,_,_,_⟩:=hout.own.shape eltPc
       have K2:=qH (K1.out.only ho (fun e=>V1.out _ e rfl))
       have V2:=qH (show ∀ k,(Value.slice A2 M2.length c2).ownBlock=some k->k=wr.heap.size->False from fun k e e2=>(hnv k e).elim (fun e=>V1.out k e e2) (fun e=>by have:=K1.out.lt;omega))
       have B2:=qH (show Below w.heap.size w w2 from B1.out.trans ⟨ho.os,ho.tape,ho.output,ho.size,fun i hi=>ho.block i (by have:=B1.out.size;omega) (fun e=>by have:=O1.out.own.base e;omega)⟩)
       have O2:=qH hout
       have D2:=qH hdat
       have L2:=qH (show M2.length<=65536+2 by have h1:=addP_len (M1.map PcE.dat) (pf+n) (pt+n) pp;have h2:=congrArg List.length hdat;have h3:=L1.out;simp only[List.length_map] at h1 h2;omega)
       clear hp hout hdat ho hnv AD k0 k1 k2
       have k0:=K2.out.cell (j:=0) rfl
       have k1:=K2.out.cell (j:=1) rfl
       have k2:=K2.out.cell (j:=2) rfl
       go_wp2_with fail
       go_roundw
       case rel=>
        refine⟨i+1,M2,by omega,by first|rfl|go_num,O2.out,?_,B2.out⟩
        rw[ST.out]
        rw[insStep_hi (show(⟨pf,pt,pA,pc,pp⟩:PcE).dat.t > a by show pt > a;omega)]
        dsimp only[PcE.dat]
        rw[show min pt a=a by omega,show max pf a=pf by omega]
        have h1:=D1.out
        have h2:=D2.out
        rw[h1] at h2
        exact h2
       case measure=>simp[intOf];omega
     ·skip
      have x0:decide (a<pt)=false:=decide_eq_false (by omega)
      have y0:(a<pt)=False:=eq_false (by omega)
      have hA:=padd O0.out.own B0.out.size (by have:=L0.out;omega) (fun x hx=>⟨(O0.out.lst x hx).1.1,by have:=(O0.out.lst x hx).1.2.1;omega⟩) (XM.out.1.1.up B0.out) (by have:=XM.out.2.len;show pp.length<=1000;have e:(⟨pf,pt,pA,pc,pp⟩:PcE).dat.ps=pp:=rfl;rw[e] at this;omega) pc (pf) (pt)
      have AD:=qH hA
      clear hA
      go_wp2_with fail
      refine AD.out.mono ?_
      rintro r w1 hp
      obtain⟨v1,M1,rfl,hout,hdat,ho,hnv⟩:=O0.out.add HR.out B0.out.size (XM.out.1.1.up B0.out) (fun hp g o e=>⟨.inl (XM.out.1.2.1 g o e),fun e2=>by have:=O0.out.own.base e2;have:=HR.out g (XM.out.1.2.1 g o e);omega⟩) (by have:=XM.out.2.len;show pp.length<=65;have e:(⟨pf,pt,pA,pc,pp⟩:PcE).dat.ps=pp:=rfl;rw[e] at this;omega) XM.out.1.2.2 hp
      obtain⟨A1,c1,rfl,_,_,_⟩:=hout.own.shape eltPc
      have K1:=qH (K0.out.only ho (fun e=>V0.out _ e rfl))
      have V1:=qH (show ∀ k,(Value.slice A1 M1.length c1).ownBlock=some k->k=wr.heap.size->False from fun k e e2=>(hnv k e).elim (fun e=>V0.out k e e2) (fun e=>by have:=K0.out.lt;omega))
      have B1:=qH (show Below w.heap.size w w1 from B0.out.trans ⟨ho.os,ho.tape,ho.output,ho.size,fun i hi=>ho.block i (by have:=B0.out.size;omega) (fun e=>by have:=O0.out.own.base e;omega)⟩)
      have O1:=qH hout
      have D1:=qH hdat
      have L1:=qH (show M1.length<=65536+1 by have h1:=addP_len (M.map PcE.dat) (pf) (pt) pp;have h2:=congrArg List.length hdat;have h3:=L0.out;simp only[List.length_map] at h1 h2;omega)
      clear hp hout hdat ho hnv AD k0 k1 k2
      have k0:=K1.out.cell (j:=0) rfl
      have k1:=K1.out.cell (j:=1) rfl
      have k2:=K1.out.cell (j:=2) rfl
      go_wp2_with fail
      go_roundw
      case rel=>
       refine⟨i+1,M1,by omega,by first|rfl|go_num,O1.out,?_,B1.out⟩
       rw[ST.out]
       rw[insStep_lo (show ¬(⟨pf,pt,pA,pc,pp⟩:PcE).dat.t > a by show ¬ pt > a;omega)]
       dsimp only[PcE.dat]
       rw[show min pt a=pt by omega]
       have h1:=D1.out
       exact h1
      case measure=>simp[intOf];omega
    ·have d0:decide ((i:Int)<L.length)=false:=decide_eq_false (by omega)
     have d00:((i:Int)<L.length)=False:=eq_false (by omega)
     have d01:(i<L.length)=False:=eq_false hlt
     obtain rfl:i=L.length:=by omega
     have hkb:=H.out.blk.kept (hbr.block b H.out.blk.lt)
     have f0:=hkb.fz 0
     have cb:=hkb.cell (j:=0) rfl
     have KB:=qH hkb
     clear hout hdat hbr hML hlt hkb
     go_wp2_with fail
     go_ret
     have hd:=DA.out
     rw[List.take_of_length_le (by simp)] at hd
     have hl:=OR.out
     have hok:PcsOk (M.map PcE.dat):=by rw[hd];exact POK.out
     obtain⟨R',hp,hR'⟩:=H.out.put KB.out (by have:=H.out.blk.lt;have:=BR.out.size;omega) (hl.own.low (Nat.zero_le _)) hok (fun e=>by have:=hl.own.base e;have:=H.out.blk.lt;omega) (fun x hx=>⟨⟨(hl.lst x hx).1.1,(hl.lst x hx).1.2.2⟩,fun g o e hp=>(hl.lst x hx).2 hp g o e⟩) HR.out
     refine⟨rfl,_,M,R',hp,?_,?_,fun k hk=>.inr (hl.own.base hk),hR'⟩
     ·rw[hd,PEQ.out]
     ·exact(Only.of_below BR.out).setCell (p:=⟨b,0,none⟩) (.inl rfl) _
end
end Go.Proofs.YtkpoodjhjfmfjaaGreatDoor
