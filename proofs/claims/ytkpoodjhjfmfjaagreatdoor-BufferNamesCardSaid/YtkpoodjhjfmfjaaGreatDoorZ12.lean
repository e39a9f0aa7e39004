/- A part of the proof of BufferNames: package buffer and its parts. -/
import Derived.Test.YtkpoodjhjfmfjaaGreatDoorZ02
import Derived.Test.YtkpoodjhjfmfjaaGreatDoorZ01
import Derived.BigRegion
set_option linter.unusedVariables false
set_option linter.unusedSimpArgs false
namespace Go.Proofs.YtkpoodjhjfmfjaaGreatDoor
open Go.RowKit Go.Lib
open Ovs (PropE encP eltP SortedP)
theorem eltSpn:Elt encPc 55 65 3 40 (.agg #[.int .i64 0,.int .i64 0,.slice none 0 0]):=
 ⟨Tryz.underlying55,by kernel_rfl,rfl,by omega,fun _=>rfl,fun x u hu=>by simp at hu;rcases hu with rfl|rfl|rfl<;>rfl⟩
section
variable {w w' : World} {b B : Nat} {v : Value} {L : List PcE} {R : Nat → Prop} {A : Option Addr}
structure SpOk (w:World) (B:Nat) (v:Value) (M:List PcE):Prop where
 own:ROwn encPc 65 3 B w v M
 lst:∀ x ∈ M,RSl encP w x.A x.ps/\x.ps.length<=64/\x.ps.length<=x.c/\(0<x.ps.length->∀ g o,x.A=some ⟨g,o,none⟩->B<=g/\v.ownBlock≠some g)
theorem SpOk.up {M:List PcE} (h:SpOk w B v M) (hb:Below w.heap.size w w'):SpOk w' B v M:=⟨h.own.up hb,fun x hx=>⟨(h.lst x hx).1.up hb,(h.lst x hx).2⟩⟩
def SpPost (w:World) (P:List Pc) (e:Ending) (w':World):Prop:=∃ v M,e=.returned v/\SpOk w' w.heap.size v M/\M.map PcE.dat=P/\Below w.heap.size w w'
def spanF (f t by_:Int) (p:Pc):Option Pc:=if max p.f f<min p.t t then some ⟨max p.f f+by_,min p.t t+by_,p.ps⟩ else none
theorem spanF_some {f t by_:Int} {p:Pc} (h:max p.f f<min p.t t):spanF f t by_ p=some ⟨max p.f f+by_,min p.t t+by_,p.ps⟩:=by unfold spanF;rw[if_pos h]
theorem spanF_none {f t by_:Int} {p:Pc} (h:¬ max p.f f<min p.t t):spanF f t by_ p=none:=by unfold spanF;rw[if_neg h]
theorem spansP_eq (l:List Pc) (f t by_:Int):spansP l f t by_=if mayP f t=true then l.filterMap (spanF f t by_) else []:=rfl
theorem filterMap_succ {α β:Type} {f:α->Option β} {l:List α} {i:Nat} {x:α} (h:l[i]?=some x):(l.take (i+1)).filterMap f=(l.take i).filterMap f++(f x).toList:=by
 rw[List.take_add_one,h,List.filterMap_append]
 cases hf:f x<;>simp[hf]
set_option maxRecDepth 100000 in
set_option maxHeartbeats 8000000 in
theorem pspansG (h:PrsAt w b v L R) (f t by_:Int) (hby:-1000000<=by_/\by_<=1000000) :
  Calls Tryz.prog 187 #[.pointer (some ⟨b,0,none⟩),.int .i64 f,.int .i64 t,.int .i64 by_] w (SpPost w (spansP (L.map PcE.dat) f t by_)):=by
 have HN:=qH (pnone h)
 have HM:=qH (pmay f t w)
 have hlen:=h.len
 have H:=qH h
 obtain⟨Av,c,rfl,hvc,hvm,hRv⟩:=h.own.shape eltPc
 have HS:=qH hRv
 have cz:=h.blk.cell (j:=0) rfl
 have BB:=qH (Below.refl w.heap.size w)
 obtain⟨P,hP⟩:∃ z,z=spansP (L.map PcE.dat) f t by_:=⟨_,rfl⟩
 rw[<-hP]
 rw[spansP_eq] at hP
 cases hm:mayP f t
 ·rw[hm] at HM hP
  simp only[Bool.false_eq_true,if_false] at hP
  have XX:=qH hP
  clear h hRv hm hP
  go_enter Tryz.func187,Tryz.ntmps187
  go_wp2_with fail
  refine HN.out.mono ?_
  rintro e w1 ⟨rfl,rfl⟩
  go_wp2_with fail
  refine HM.out.mono ?_
  rintro e w1 ⟨rfl,rfl⟩
  go_wp2_with fail
  go_ret
  exact⟨.slice none 0 0,[],rfl,⟨ROwn.nil _ _,by simp⟩,XX.out.symm,Below.refl _ _⟩
 ·rw[hm] at HM hP
  simp only[if_true] at hP
  have PEQ:=qH hP.symm
  obtain⟨m1,m2,m3⟩:1<=f/\f<=t/\t<=65537:=by unfold mayP at hm;simp at hm;omega
  clear h hRv hm hP
  go_enter Tryz.func187,Tryz.ntmps187
  go_wp2_with fail
  refine HN.out.mono ?_
  rintro e w1 ⟨rfl,rfl⟩
  go_wp2_with fail
  refine HM.out.mono ?_
  rintro e w1 ⟨rfl,rfl⟩
  go_wp2_with fail
  go_loopw [9,27] (fun vo vi wr=>∃(i:Nat) (M:List PcE),i<=L.length/\vi=.int .i64 i/\SpOk wr w.heap.size vo M/\M.length<=i/\M.map PcE.dat=((L.map PcE.dat).take i).filterMap (spanF f t by_)/\Below w.heap.size w wr) (fun _ vi _=>L.length -(intOf vi).toNat)
  case atStart=>exact⟨0,[],by omega,rfl,⟨ROwn.nil _ _,by simp⟩,by simp,rfl,BB.out⟩
  case round=>
   obtain⟨i,M,hi,rfl,hout,hML,hdat,hbr⟩:=hrel
   obtain⟨A0,c0,rfl,_,_,_⟩:=hout.own.shape eltSpn
   have OR:=qH hout
   have DA:=qH hdat
   have BR:=qH hbr
   by_cases hlt:i<L.length
   ·obtain⟨⟨pf,pt,pA,pc,pp⟩,hx⟩:∃ x,L[i]?=some x:=⟨_,List.getElem?_eq_getElem hlt⟩
    obtain⟨gg,o,hAe,hgg,hc⟩:=(HS.out.up hbr).at_ eltPc hx
    cases hAe
    have e0:=hc 0 _ rfl
    have e1:=hc 1 _ rfl
    have e2:=hc 2 _ rfl
    simp only[<-Nat.add_assoc,Nat.add_zero] at e0 e1 e2
    have d0:decide ((i:Int)<L.length)=true:=decide_eq_true (by omega)
    have lt1:(i:Int)<L.length:=by omega
    have d01:(i<L.length)=True:=eq_true hlt
    have hxm:=H.out.lst _ (List.mem_of_getElem? hx)
    have hxk:=mem_pieces H.out.ok (List.mem_of_getElem? hx)
    have XM:=qH (⟨hxm,hxk⟩:_/\_)
    have hb6:=below1 wr (.cells #[.int .i64 pf,.int .i64 pt,.slice pA pp.length pc] 190)
    have hk6:=Blk.made wr 190 #[.int .i64 pf,.int .i64 pt,.slice pA pp.length pc]
    have k0:=hk6.cell (j:=0) rfl
    have k1:=hk6.cell (j:=1) rfl
    have k2:=hk6.cell (j:=2) rfl
    have K0:=qH (⟨hb6,hk6⟩:_/\_)
    have hstep:=filterMap_succ (f:=spanF f t by_) (dat_get hx)
    have ST:=qH hstep
    have hft2:pf<pt:=hxk.ft
    have hf1:1<=pf:=hxk.f1
    have ht1:pt<=65537:=hxk.t1
    have hppl:pp.length<=64:=hxk.len
    clear hc hx hxm hxk hb6 hk6 hout hdat hbr hstep hlt
    by_cases hA:pf<f
    ·by_cases hB:t<pt
     ·by_cases hC:f<t
      ·skip
       have x0:decide (pf<f)=true:=decide_eq_true (by omega)
       have y0:(pf<f)=True:=eq_true (by omega)
       have x1:decide (t<pt)=true:=decide_eq_true (by omega)
       have y1:(t<pt)=True:=eq_true (by omega)
       have x2:decide (f<t)=true:=decide_eq_true (by omega)
       have y2:(f<t)=True:=eq_true (by omega)
       go_wp2_with fail
       go_region
       have hbd:Below wr.heap.size wr (wr.alloc (.cells #[.int .i64 pf,.int .i64 pt,.slice pA pp.length pc] 190)).drew:=K0.out.1.drew
       have hkd:Blk (wr.alloc (.cells #[.int .i64 pf,.int .i64 pt,.slice pA pp.length pc] 190)).drew wr.heap.size 190 #[.int .i64 pf,.int .i64 pt,.slice pA pp.length pc]:=K0.out.2
       clear k0 k1 k2
       generalize (wr.alloc (.cells #[.int .i64 pf,.int .i64 pt,.slice pA pp.length pc] 190)).drew=W1 at *
       have k0:=hkd.cell (j:=0) rfl
       have k1:=hkd.cell (j:=1) rfl
       have k2:=hkd.cell (j:=2) rfl
       have B1:=qH (⟨hbd,up2 BR.out hbd⟩:_/\_)
       have hcl:=Ovs.cloneP (XM.out.1.1.up B1.out.2) pc (by show pp.length<=1000000;omega)
       have CL:=qH hcl
       have s0:IntKind.i64.wrap (f+by_)=f+by_:=IntWalk.i64_in _ (by omega)
       have s1:IntKind.i64.wrap (t+by_)=t+by_:=IntWalk.i64_in _ (by omega)
       clear hcl hbd hkd
       go_wp2_with fail
       refine CL.out.mono ?_
       rintro e w2 ⟨v2,rfl,hown2,hb2⟩
       obtain⟨A2,c2,rfl,hc2,_,hR2⟩:=hown2.shape eltP
       have hO2:=(OR.out.up B1.out.1).up hb2
       obtain⟨v3,w3,hrun,hown3,hbel3,hon3,hblk3⟩:=append_elem eltSpn hO2.own (by have:=B1.out.2.size;have:=hb2.size;omega) ⟨f+by_,t+by_,A2,c2,pp⟩ (by omega) (by omega)
       have HR3:=qH hrun
       have O3:=qH (⟨hown3,hon3,hblk3,hO2,hb2,hown2,hR2,hc2⟩:_/\_/\_/\_/\_/\_/\_/\_)
       clear hrun hown3 hbel3 hon3 hblk3 hO2 hb2 hown2 hR2 hc2 CL
       go_wp2_with (at_builtin;refine wpList_app_run rfl _ _ _ rfl rfl rfl HR3.out ?_)
       go_roundw
       case rel=>
        obtain⟨hown3,hon3,hblk3,hO2,hb2,hown2,hR2,hc2⟩:=O3.out
        have hz1:=B1.out.2.size
        have hz2:=hb2.size
        have hA2:0<pp.length->∀ g o,A2=some ⟨g,o,none⟩->W1.heap.size<=g/\g<w2.heap.size:=fun hp g o e=>⟨by
         rcases hown2.2 with ⟨e2,h0⟩|⟨g',cap,cur,e2,hbq,_⟩
         ·omega
         ·rw[e] at e2;simp only[Value.slice.injEq,Option.some.injEq,Addr.mk.injEq] at e2;have:=e2.1.1;omega,hR2.lt hp e⟩
        have hv3:∀ k,v3.ownBlock=some k->(Value.slice A0 M.length c0).ownBlock=some k\/w2.heap.size<=k:=fun k hk=>by
         rcases hblk3 with h|⟨g,h,h2⟩
         ·exact .inl (h▸hk)
         ·rw[h] at hk;cases hk;exact .inr h2
        refine⟨i+1,M++[⟨f+by_,t+by_,A2,c2,pp⟩],by omega,by first|rfl|go_num,⟨hown3,fun x hx=>?_⟩,by simp;omega,?_,?_⟩
        ·rcases List.mem_append.1 hx with hx|hx
         ·obtain⟨a1,a2,a3,a4⟩:=hO2.lst x hx
          exact⟨a1.keptP (fun hp g o e=>hon3.block g (a1.lt hp e) (fun e2=>(a4 hp g o e).2 e2)) hon3.size,a2,a3,fun hp g o e=>⟨(a4 hp g o e).1,fun e2=>(hv3 g e2).elim (fun h=>(a4 hp g o e).2 h) (fun h=>by have:=a1.lt hp e;omega)⟩⟩
         ·obtain rfl:x=⟨f+by_,t+by_,A2,c2,pp⟩:=by simpa using hx
          have hno:0<pp.length->∀ g o,A2=some ⟨g,o,none⟩->¬(Value.slice A0 M.length c0).ownBlock=some g:=fun hp g o e e2=>by have:=OR.out.own.lt e2;have:=hA2 hp g o e;have:=B1.out.1.size;omega
          exact⟨hR2.keptP (fun hp g o e=>hon3.block g (hA2 hp g o e).2 (hno hp g o e)) hon3.size,hppl,hc2,fun hp g o e=>⟨by have:=hA2 hp g o e;omega,fun e2=>(hv3 g e2).elim (hno hp g o e) (fun h=>by have:=hA2 hp g o e;omega)⟩⟩
        ·rw[List.map_append,DA.out]
         rw[ST.out]
         rw[spanF_some (p:=(⟨pf,pt,pA,pc,pp⟩:PcE).dat) (show max pf f<min pt t by omega)]
         show _=_++[(⟨max pf f+by_,min pt t+by_,pp⟩:Pc)]
         rw[show max pf f=f by omega,show min pt t=t by omega]
         rfl
        ·exact(B1.out.2.trans (hb2.mono hz1)).trans ⟨hon3.os,hon3.tape,hon3.output,hon3.size,fun k hk=>hon3.block k (by omega) (fun e=>by have:=OR.out.own.base e;omega)⟩
       case measure=>simp[intOf];omega
      ·skip
       have x0:decide (pf<f)=true:=decide_eq_true (by omega)
       have y0:(pf<f)=True:=eq_true (by omega)
       have x1:decide (t<pt)=true:=decide_eq_true (by omega)
       have y1:(t<pt)=True:=eq_true (by omega)
       have x2:decide (f<t)=false:=decide_eq_false (by omega)
       have y2:(f<t)=False:=eq_false (by omega)
       go_wp2_with fail
       go_region
       have hbd:Below wr.heap.size wr (wr.alloc (.cells #[.int .i64 pf,.int .i64 pt,.slice pA pp.length pc] 190)).drew:=K0.out.1.drew
       have hkd:Blk (wr.alloc (.cells #[.int .i64 pf,.int .i64 pt,.slice pA pp.length pc] 190)).drew wr.heap.size 190 #[.int .i64 pf,.int .i64 pt,.slice pA pp.length pc]:=K0.out.2
       clear k0 k1 k2
       generalize (wr.alloc (.cells #[.int .i64 pf,.int .i64 pt,.slice pA pp.length pc] 190)).drew=W1 at *
       have k0:=hkd.cell (j:=0) rfl
       have k1:=hkd.cell (j:=1) rfl
       have k2:=hkd.cell (j:=2) rfl
       have B1:=qH (⟨hbd,up2 BR.out hbd⟩:_/\_)
       have O1:=qH (OR.out.up hbd)
       clear hbd hkd
       go_wp2_with fail
       go_roundw
       case rel=>
        refine⟨i+1,M,by omega,by first|rfl|go_num,O1.out,by omega,?_,B1.out.2⟩
        rw[DA.out]
        rw[ST.out]
        rw[spanF_none (p:=(⟨pf,pt,pA,pc,pp⟩:PcE).dat) (show ¬ max pf f<min pt t by omega)]
        simp
       case measure=>simp[intOf];omega
     ·by_cases hC:f<pt
      ·skip
       have x0:decide (pf<f)=true:=decide_eq_true (by omega)
       have y0:(pf<f)=True:=eq_true (by omega)
       have x1:decide (t<pt)=false:=decide_eq_false (by omega)
       have y1:(t<pt)=False:=eq_false (by omega)
       have x2:decide (f<pt)=true:=decide_eq_true (by omega)
       have y2:(f<pt)=True:=eq_true (by omega)
       go_wp2_with fail
       go_region
       have hbd:Below wr.heap.size wr (wr.alloc (.cells #[.int .i64 pf,.int .i64 pt,.slice pA pp.length pc] 190)).drew:=K0.out.1.drew
       have hkd:Blk (wr.alloc (.cells #[.int .i64 pf,.int .i64 pt,.slice pA pp.length pc] 190)).drew wr.heap.size 190 #[.int .i64 pf,.int .i64 pt,.slice pA pp.length pc]:=K0.out.2
       clear k0 k1 k2
       generalize (wr.alloc (.cells #[.int .i64 pf,.int .i64 pt,.slice pA pp.length pc] 190)).drew=W1 at *
       have k0:=hkd.cell (j:=0) rfl
       have k1:=hkd.cell (j:=1) rfl
       have k2:=hkd.cell (j:=2) rfl
       have B1:=qH (⟨hbd,up2 BR.out hbd⟩:_/\_)
       have hcl:=Ovs.cloneP (XM.out.1.1.up B1.out.2) pc (by show pp.length<=1000000;omega)
       have CL:=qH hcl
       have s0:IntKind.i64.wrap (f+by_)=f+by_:=IntWalk.i64_in _ (by omega)
       have s1:IntKind.i64.wrap (pt+by_)=pt+by_:=IntWalk.i64_in _ (by omega)
       clear hcl hbd hkd
       go_wp2_with fail
       refine CL.out.mono ?_
       rintro e w2 ⟨v2,rfl,hown2,hb2⟩
       obtain⟨A2,c2,rfl,hc2,_,hR2⟩:=hown2.shape eltP
       have hO2:=(OR.out.up B1.out.1).up hb2
       obtain⟨v3,w3,hrun,hown3,hbel3,hon3,hblk3⟩:=append_elem eltSpn hO2.own (by have:=B1.out.2.size;have:=hb2.size;omega) ⟨f+by_,pt+by_,A2,c2,pp⟩ (by omega) (by omega)
       have HR3:=qH hrun
       have O3:=qH (⟨hown3,hon3,hblk3,hO2,hb2,hown2,hR2,hc2⟩:_/\_/\_/\_/\_/\_/\_/\_)
       clear hrun hown3 hbel3 hon3 hblk3 hO2 hb2 hown2 hR2 hc2 CL
       go_wp2_with (at_builtin;refine wpList_app_run rfl _ _ _ rfl rfl rfl HR3.out ?_)
       go_roundw
       case rel=>
        obtain⟨hown3,hon3,hblk3,hO2,hb2,hown2,hR2,hc2⟩:=O3.out
        have hz1:=B1.out.2.size
        have hz2:=hb2.size
        have hA2:0<pp.length->∀ g o,A2=some ⟨g,o,none⟩->W1.heap.size<=g/\g<w2.heap.size:=fun hp g o e=>⟨by
         rcases hown2.2 with ⟨e2,h0⟩|⟨g',cap,cur,e2,hbq,_⟩
         ·omega
         ·rw[e] at e2;simp only[Value.slice.injEq,Option.some.injEq,Addr.mk.injEq] at e2;have:=e2.1.1;omega,hR2.lt hp e⟩
        have hv3:∀ k,v3.ownBlock=some k->(Value.slice A0 M.length c0).ownBlock=some k\/w2.heap.size<=k:=fun k hk=>by
         rcases hblk3 with h|⟨g,h,h2⟩
         ·exact .inl (h▸hk)
         ·rw[h] at hk;cases hk;exact .inr h2
        refine⟨i+1,M++[⟨f+by_,pt+by_,A2,c2,pp⟩],by omega,by first|rfl|go_num,⟨hown3,fun x hx=>?_⟩,by simp;omega,?_,?_⟩
        ·rcases List.mem_append.1 hx with hx|hx
         ·obtain⟨a1,a2,a3,a4⟩:=hO2.lst x hx
          exact⟨a1.keptP (fun hp g o e=>hon3.block g (a1.lt hp e) (fun e2=>(a4 hp g o e).2 e2)) hon3.size,a2,a3,fun hp g o e=>⟨(a4 hp g o e).1,fun e2=>(hv3 g e2).elim (fun h=>(a4 hp g o e).2 h) (fun h=>by have:=a1.lt hp e;omega)⟩⟩
         ·obtain rfl:x=⟨f+by_,pt+by_,A2,c2,pp⟩:=by simpa using hx
          have hno:0<pp.length->∀ g o,A2=some ⟨g,o,none⟩->¬(Value.slice A0 M.length c0).ownBlock=some g:=fun hp g o e e2=>by have:=OR.out.own.lt e2;have:=hA2 hp g o e;have:=B1.out.1.size;omega
          exact⟨hR2.keptP (fun hp g o e=>hon3.block g (hA2 hp g o e).2 (hno hp g o e)) hon3.size,hppl,hc2,fun hp g o e=>⟨by have:=hA2 hp g o e;omega,fun e2=>(hv3 g e2).elim (hno hp g o e) (fun h=>by have:=hA2 hp g o e;omega)⟩⟩
        ·rw[List.map_append,DA.out]
         rw[ST.out]
         rw[spanF_some (p:=(⟨pf,pt,pA,pc,pp⟩:PcE).dat) (show max pf f<min pt t by omega)]
         show _=_++[(⟨max pf f+by_,min pt t+by_,pp⟩:Pc)]
         rw[show max pf f=f by omega,show min pt t=pt by omega]
         rfl
        ·exact(B1.out.2.trans (hb2.mono hz1)).trans ⟨hon3.os,hon3.tape,hon3.output,hon3.size,fun k hk=>hon3.block k (by omega) (fun e=>by have:=OR.out.own.base e;omega)⟩
       case measure=>simp[intOf];omega
      ·skip
       have x0:decide (pf<f)=true:=decide_eq_true (by omega)
       have y0:(pf<f)=True:=eq_true (by omega)
       have x1:decide (t<pt)=false:=decide_eq_false (by omega)
       have y1:(t<pt)=False:=eq_false (by omega)
       have x2:decide (f<pt)=false:=decide_eq_false (by omega)
       have y2:(f<pt)=False:=eq_false (by omega)
       go_wp2_with fail
       go_region
       have hbd:Below wr.heap.size wr (wr.alloc (.cells #[.int .i64 pf,.int .i64 pt,.slice pA pp.length pc] 190)).drew:=K0.out.1.drew
       have hkd:Blk (wr.alloc (.cells #[.int .i64 pf,.int .i64 pt,.slice pA pp.length pc] 190)).drew wr.heap.size 190 #[.int .i64 pf,.int .i64 pt,.slice pA pp.length pc]:=K0.out.2
       clear k0 k1 k2
       generalize (wr.alloc (.cells #[.int .i64 pf,.int .i64 pt,.slice pA pp.length pc] 190)).drew=W1 at *
       have k0:=hkd.cell (j:=0) rfl
       have k1:=hkd.cell (j:=1) rfl
       have k2:=hkd.cell (j:=2) rfl
       have B1:=qH (⟨hbd,up2 BR.out hbd⟩:_/\_)
       have O1:=qH (OR.out.up hbd)
       clear hbd hkd
       go_wp2_with fail
       go_roundw
       case rel=>
        refine⟨i+1,M,by omega,by first|rfl|go_num,O1.out,by omega,?_,B1.out.2⟩
        rw[DA.out]
        rw[ST.out]
        rw[spanF_none (p:=(⟨pf,pt,pA,pc,pp⟩:PcE).dat) (show ¬ max pf f<min pt t by omega)]
        simp
       case measure=>simp[intOf];omega
    ·by_cases hB:t<pt
     ·by_cases hC:pf<t
      ·skip
       have x0:decide (pf<f)=false:=decide_eq_false (by omega)
       have y0:(pf<f)=False:=eq_false (by omega)
       have x1:decide (t<pt)=true:=decide_eq_true (by omega)
       have y1:(t<pt)=True:=eq_true (by omega)
       have x2:decide (pf<t)=true:=decide_eq_true (by omega)
       have y2:(pf<t)=True:=eq_true (by omega)
       go_wp2_with fail
       go_region
       have hbd:Below wr.heap.size wr (wr.alloc (.cells #[.int .i64 pf,.int .i64 pt,.slice pA pp.length pc] 190)).drew:=K0.out.1.drew
       have hkd:Blk (wr.alloc (.cells #[.int .i64 pf,.int .i64 pt,.slice pA pp.length pc] 190)).drew wr.heap.size 190 #[.int .i64 pf,.int .i64 pt,.slice pA pp.length pc]:=K0.out.2
       clear k0 k1 k2
       generalize (wr.alloc (.cells #[.int .i64 pf,.int .i64 pt,.slice pA pp.length pc] 190)).drew=W1 at *
       have k0:=hkd.cell (j:=0) rfl
       have k1:=hkd.cell (j:=1) rfl
       have k2:=hkd.cell (j:=2) rfl
       have B1:=qH (⟨hbd,up2 BR.out hbd⟩:_/\_)
       have hcl:=Ovs.cloneP (XM.out.1.1.up B1.out.2) pc (by show pp.length<=1000000;omega)
       have CL:=qH hcl
       have s0:IntKind.i64.wrap (pf+by_)=pf+by_:=IntWalk.i64_in _ (by omega)
       have s1:IntKind.i64.wrap (t+by_)=t+by_:=IntWalk.i64_in _ (by omega)
       clear hcl hbd hkd
       go_wp2_with fail
       refine CL.out.mono ?_
       rintro e w2 ⟨v2,rfl,hown2,hb2⟩
       obtain⟨A2,c2,rfl,hc2,_,hR2⟩:=hown2.shape eltP
       have hO2:=(OR.out.up B1.out.1).up hb2
       obtain⟨v3,w3,hrun,hown3,hbel3,hon3,hblk3⟩:=append_elem eltSpn hO2.own (by have:=B1.out.2.size;have:=hb2.size;omega) ⟨pf+by_,t+by_,A2,c2,pp⟩ (by omega) (by omega)
       have HR3:=qH hrun
       have O3:=qH (⟨hown3,hon3,hblk3,hO2,hb2,hown2,hR2,hc2⟩:_/\_/\_/\_/\_/\_/\_/\_)
       clear hrun hown3 hbel3 hon3 hblk3 hO2 hb2 hown2 hR2 hc2 CL
       go_wp2_with (at_builtin;refine wpList_app_run rfl _ _ _ rfl rfl rfl HR3.out ?_)
       go_roundw
       case rel=>
        obtain⟨hown3,hon3,hblk3,hO2,hb2,hown2,hR2,hc2⟩:=O3.out
        have hz1:=B1.out.2.size
        have hz2:=hb2.size
        have hA2:0<pp.length->∀ g o,A2=some ⟨g,o,none⟩->W1.heap.size<=g/\g<w2.heap.size:=fun hp g o e=>⟨by
         rcases hown2.2 with ⟨e2,h0⟩|⟨g',cap,cur,e2,hbq,_⟩
         ·omega
         ·rw[e] at e2;simp only[Value.slice.injEq,Option.some.injEq,Addr.mk.injEq] at e2;have:=e2.1.1;omega,hR2.lt hp e⟩
        have hv3:∀ k,v3.ownBlock=some k->(Value.slice A0 M.length c0).ownBlock=some k\/w2.heap.size<=k:=fun k hk=>by
         rcases hblk3 with h|⟨g,h,h2⟩
         ·exact .inl (h▸hk)
         ·rw[h] at hk;cases hk;exact .inr h2
        refine⟨i+1,M++[⟨pf+by_,t+by_,A2,c2,pp⟩],by omega,by first|rfl|go_num,⟨hown3,fun x hx=>?_⟩,by simp;omega,?_,?_⟩
        ·rcases List.mem_append.1 hx with hx|hx
         ·obtain⟨a1,a2,a3,a4⟩:=hO2.lst x hx
          exact⟨a1.keptP (fun hp g o e=>hon3.block g (a1.lt hp e) (fun e2=>(a4 hp g o e).2 e2)) hon3.size,a2,a3,fun hp g o e=>⟨(a4 hp g o e).1,fun e2=>(hv3 g e2).elim (fun h=>(a4 hp g o e).2 h) (fun h=>by have:=a1.lt hp e;omega)⟩⟩
         ·obtain rfl:x=⟨pf+by_,t+by_,A2,c2,pp⟩:=by simpa using hx
          have hno:0<pp.length->∀ g o,A2=some ⟨g,o,none⟩->¬(Value.slice A0 M.length c0).ownBlock=some g:=fun hp g o e e2=>by have:=OR.out.own.lt e2;have:=hA2 hp g o e;have:=B1.out.1.size;omega
          exact⟨hR2.keptP (fun hp g o e=>hon3.block g (hA2 hp g o e).2 (hno hp g o e)) hon3.size,hppl,hc2,fun hp g o e=>⟨by have:=hA2 hp g o e;omega,fun e2=>(hv3 g e2).elim (hno hp g o e) (fun h=>by have:=hA2 hp g o e;omega)⟩⟩
        ·rw[List.map_append,DA.out]
         rw[ST.out]
         rw[spanF_some (p:=(⟨pf,pt,pA,pc,pp⟩:PcE).dat) (show max pf f<min pt t by omega)]
         show _=_++[(⟨max pf f+by_,min pt t+by_,pp⟩:Pc)]
         rw[show max pf f=pf by omega,show min pt t=t by omega]
         rfl
        ·exact(B1.out.2.trans (hb2.mono hz1)).trans ⟨hon3.os,hon3.tape,hon3.output,hon3.size,fun k hk=>hon3.block k (by omega) (fun e=>by have:=OR.out.own.base e;omega)⟩
       case measure=>simp[intOf];omega
      ·skip
       have x0:decide (pf<f)=false:=decide_eq_false (by omega)
       have y0:(pf<f)=False:=eq_false (by omega)
       have x1:decide (t<pt)=true:=decide_eq_true (by omega)
       have y1:(t<pt)=True:=eq_true (by omega)
       have x2:decide (pf<t)=false:=decide_eq_false (by omega)
       have y2:(pf<t)=False:=eq_false (by omega)
       go_wp2_with fail
       go_region
       have hbd:Below wr.heap.size wr (wr.alloc (.cells #[.int .i64 pf,.int .i64 pt,.slice pA pp.length pc] 190)).drew:=K0.out.1.drew
       have hkd:Blk (wr.alloc (.cells #[.int .i64 pf,.int .i64 pt,.slice pA pp.length pc] 190)).drew wr.heap.size 190 #[.int .i64 pf,.int .i64 pt,.slice pA pp.length pc]:=K0.out.2
       clear k0 k1 k2
       generalize (wr.alloc (.cells #[.int .i64 pf,.int .i64 pt,.slice pA pp.length pc] 190)).drew=W1 at *
       have k0:=hkd.cell (j:=0) rfl
       have k1:=hkd.cell (j:=1) rfl
       have k2:=hkd.cell (j:=2) rfl
       have B1:=qH (⟨hbd,up2 BR.out hbd⟩:_/\_)
       have O1:=qH (OR.out.up hbd)
       clear hbd hkd
       go_wp2_with fail
       go_roundw
       case rel=>
        refine⟨i+1,M,by omega,by first|rfl|go_num,O1.out,by omega,?_,B1.out.2⟩
        rw[DA.out]
        rw[ST.out]
        rw[spanF_none (p:=(⟨pf,pt,pA,pc,pp⟩:PcE).dat) (show ¬ max pf f<min pt t by omega)]
        simp
       case measure=>simp[intOf];omega
     ·skip
      have x0:decide (pf<f)=false:=decide_eq_false (by omega)
      have y0:(pf<f)=False:=eq_false (by omega)
      have x1:decide (t<pt)=false:=decide_eq_false (by omega)
      have y1:(t<pt)=False:=eq_false (by omega)
      have x2:decide (pf<pt)=true:=decide_eq_true (by omega)
      have y2:(pf<pt)=True:=eq_true (by omega)
      go_wp2_with fail
      go_region
      have hbd:Below wr.heap.size wr (wr.alloc (.cells #[.int .i64 pf,.int .i64 pt,.slice pA pp.length pc] 190)).drew:=K0.out.1.drew
      have hkd:Blk (wr.alloc (.cells #[.int .i64 pf,.int .i64 pt,.slice pA pp.length pc] 190)).drew wr.heap.size 190 #[.int .i64 pf,.int .i64 pt,.slice pA pp.length pc]:=K0.out.2
      clear k0 k1 k2
      generalize (wr.alloc (.cells #[.int .i64 pf,.int .i64 pt,.slice pA pp.length pc] 190)).drew=W1 at *
      have k0:=hkd.cell (j:=0) rfl
      have k1:=hkd.cell (j:=1) rfl
      have k2:=hkd.cell (j:=2) rfl
      have B1:=qH (⟨hbd,up2 BR.out hbd⟩:_/\_)
      have hcl:=Ovs.cloneP (XM.out.1.1.up B1.out.2) pc (by show pp.length<=1000000;omega)
      have CL:=qH hcl
      have s0:IntKind.i64.wrap (pf+by_)=pf+by_:=IntWalk.i64_in _ (by omega)
      have s1:IntKind.i64.wrap (pt+by_)=pt+by_:=IntWalk.i64_in _ (by omega)
      clear hcl hbd hkd
      go_wp2_with fail
      refine CL.out.mono ?_
      rintro e w2 ⟨v2,rfl,hown2,hb2⟩
      obtain⟨A2,c2,rfl,hc2,_,hR2⟩:=hown2.shape eltP
      have hO2:=(OR.out.up B1.out.1).up hb2
      obtain⟨v3,w3,hrun,hown3,hbel3,hon3,hblk3⟩:=append_elem eltSpn hO2.own (by have:=B1.out.2.size;have:=hb2.size;omega) ⟨pf+by_,pt+by_,A2,c2,pp⟩ (by omega) (by omega)
      have HR3:=qH hrun
      have O3:=qH (⟨hown3,hon3,hblk3,hO2,hb2,hown2,hR2,hc2⟩:_/\_/\_/\_/\_/\_/\_/\_)
      clear hrun hown3 hbel3 hon3 hblk3 hO2 hb2 hown2 hR2 hc2 CL
      go_wp2_with (at_builtin;refine wpList_app_run rfl _ _ _ rfl rfl rfl HR3.out ?_)
      go_roundw
      case rel=>
       obtain⟨hown3,hon3,hblk3,hO2,hb2,hown2,hR2,hc2⟩:=O3.out
       have hz1:=B1.out.2.size
       have hz2:=hb2.size
       have hA2:0<pp.length->∀ g o,A2=some ⟨g,o,none⟩->W1.heap.size<=g/\g<w2.heap.size:=fun hp g o e=>⟨by
        rcases hown2.2 with ⟨e2,h0⟩|⟨g',cap,cur,e2,hbq,_⟩
        ·omega
        ·rw[e] at e2;simp only[Value.slice.injEq,Option.some.injEq,Addr.mk.injEq] at e2;have:=e2.1.1;omega,hR2.lt hp e⟩
       have hv3:∀ k,v3.ownBlock=some k->(Value.slice A0 M.length c0).ownBlock=some k\/w2.heap.size<=k:=fun k hk=>by
        rcases hblk3 with h|⟨g,h,h2⟩
        ·exact .inl (h▸hk)
        ·rw[h] at hk;cases hk;exact .inr h2
       refine⟨i+1,M++[⟨pf+by_,pt+by_,A2,c2,pp⟩],by omega,by first|rfl|go_num,⟨hown3,fun x hx=>?_⟩,by simp;omega,?_,?_⟩
       ·rcases List.mem_append.1 hx with hx|hx
        ·obtain⟨a1,a2,a3,a4⟩:=hO2.lst x hx
         exact⟨a1.keptP (fun hp g o e=>hon3.block g (a1.lt hp e) (fun e2=>(a4 hp g o e).2 e2)) hon3.size,a2,a3,fun hp g o e=>⟨(a4 hp g o e).1,fun e2=>(hv3 g e2).elim (fun h=>(a4 hp g o e).2 h) (fun h=>by have:=a1.lt hp e;omega)⟩⟩
        ·obtain rfl:x=⟨pf+by_,pt+by_,A2,c2,pp⟩:=by simpa using hx
         have hno:0<pp.length->∀ g o,A2=some ⟨g,o,none⟩->¬(Value.slice A0 M.length c0).ownBlock=some g:=fun hp g o e e2=>by have:=OR.out.own.lt e2;have:=hA2 hp g o e;have:=B1.out.1.size;omega
         exact⟨hR2.keptP (fun hp g o e=>hon3.block g (hA2 hp g o e).2 (hno hp g o e)) hon3.size,hppl,hc2,fun hp g o e=>⟨by have:=hA2 hp g o e;omega,fun e2=>(hv3 g e2).elim (hno hp g o e) (fun h=>by have:=hA2 hp g o e;omega)⟩⟩
       ·rw[List.map_append,DA.out]
        rw[ST.out]
        rw[spanF_some (p:=(⟨pf,pt,pA,pc,pp⟩:PcE).dat) (show max pf f<min pt t by omega)]
        show _=_++[(⟨max pf f+by_,min pt t+by_,pp⟩:Pc)]
        rw[show max pf f=pf by omega,show min pt t=pt by omega]
        rfl
       ·exact(B1.out.2.trans (hb2.mono hz1)).trans ⟨hon3.os,hon3.tape,hon3.output,hon3.size,fun k hk=>hon3.block k (by omega) (fun e=>by have:=OR.out.own.base e;omega)⟩
      case measure=>simp[intOf];omega
   ·have d0:decide ((i:Int)<L.length)=false:=decide_eq_false (by omega)
    have d00:((i:Int)<L.length)=False:=eq_false (by omega)
    have d01:(i<L.length)=False:=eq_false hlt
    obtain rfl:i=L.length:=by omega
    clear hout hdat hbr hlt
    go_wp2_with fail
    go_ret
    have hd:=DA.out
    rw[List.take_of_length_le (by simp)] at hd
    exact⟨.slice A0 M.length c0,M,rfl,OR.out,by rw[hd,PEQ.out],BR.out⟩
set_option maxHeartbeats 400000 in
theorem pSpans (h:PrsAt w b v L R) (f t:Int):Calls Tryz.prog 113 #[.pointer (some ⟨b,0,none⟩),.int .i64 f,.int .i64 t] w (SpPost w (spansP (L.map PcE.dat) f t 0)):=by
 have HS:=qH (pspansG h f t 0 (by omega))
 clear h
 go_enter Tryz.func113,Tryz.ntmps113
 go_wp2_with fail
 refine HS.out.mono ?_
 rintro e w1 ⟨v1,M,rfl,h⟩
 obtain⟨A1,c1,rfl,_,_,_⟩:=h.1.own.shape eltSpn
 have H:=qH h
 clear h
 go_wp2_with fail
 go_ret
 exact⟨.slice A1 M.length c1,M,rfl,H.out⟩
end
end Go.Proofs.YtkpoodjhjfmfjaaGreatDoor
namespace Go.Proofs.YtkpoodjhjfmfjaaGreatDoor
open Go.RowKit Go.Lib
open Ovs (PropE encP eltP SortedP)
theorem eqWd (a b c d:Int) (w:World):(binOp .eql 31 (.agg #[.int .i64 a,.int .i64 b]) (.agg #[.int .i64 c,.int .i64 d])).run Tryz.prog w=.ok (.bool (a == c && b == d)) w:=by
 have u3:=Tryz.underlying3
 have hS:Tryz.prog.underlying 31=some (.struct (Tryz.prog.fieldsOf 31)):=by kernel_rfl
 have hp:Tryz.prog.stoodInHeld 31=false:=by kernel_rfl
 rw[run_eql_struct,show(10000:Nat)=9999+1 from rfl,run_equalIn_agg w 9999 31 _ _ hS hp]
 simp only[Program.fieldsOf,Tryz.underlying31]
 by_cases h1:a=c
 ·by_cases h2:b=d
  ·simp only[h1,h2];go_simp
  ·have d2:(b == d)=false:=by simpa using h2
   simp only[h1];go_simp
 ·have d1:(a == c)=false:=by simpa using h1
  go_simp
def sameOf (nm:Int) (xs ys:List PropE):Bool:=decide (getL xs nm=getL ys nm)
theorem sameOf_eq (o o':Option (Int × Int)):decide (o=o')=(((o.getD (0,0)).1 ==(o'.getD (0,0)).1 && (o.getD (0,0)).2 ==(o'.getD (0,0)).2) && (o.isSome == o'.isSome)):=by
 rw[Bool.eq_iff_iff,decide_eq_true_eq,Bool.and_eq_true,Bool.and_eq_true,beq_iff_eq,beq_iff_eq,beq_iff_eq]
 cases o with
 | none=>cases o' with
   | none=>simp
   | some y=>simp
 | some x=>cases o' with
   | none=>simp
   | some y=>obtain⟨a,b⟩:=x;obtain⟨c,d⟩:=y;simp
section
variable {w w' : World} {b q : Nat} {v : Value} {L : List PcE} {R : Nat → Prop} {A A' : Option Addr} {xs ys : List PropE}
set_option maxRecDepth 100000 in
set_option maxHeartbeats 2000000 in
theorem nextC (nm:Int) (hq:Blk w q 3 #[.int .i64 nm]) (h:RSl encP w A xs) (h':RSl encP w A' ys) (c c':Nat) (hl:xs.length<=1000000) (hl':ys.length<=1000000) :
  Calls Tryz.prog 210 #[.slice A xs.length c,.slice A' ys.length c',.pointer (some ⟨q,0,none⟩)] w fun e w'=>e=.returned (.bool (sameOf nm xs ys))/\Below w.heap.size w w':=by
 unfold sameOf
 rw[sameOf_eq]
 have HG1:=qH (pget h c nm hl)
 have HG2:=qH (fun(w1:World) (hb:Below w.heap.size w w1)=>pget (h'.up hb) c' nm hl')
 obtain⟨⟨k1,n1⟩,hk1⟩:∃ z,z=(getL xs nm).getD (0,0):=⟨_,rfl⟩
 obtain⟨s1,hs1⟩:∃ z,z=(getL xs nm).isSome:=⟨_,rfl⟩
 obtain⟨⟨k2,n2⟩,hk2⟩:∃ z,z=(getL ys nm).getD (0,0):=⟨_,rfl⟩
 obtain⟨s2,hs2⟩:∃ z,z=(getL ys nm).isSome:=⟨_,rfl⟩
 have e1:getV2 (getL xs nm)=.tuple #[.agg #[.int .i64 k1,.int .i64 n1],.bool s1]:=by unfold getV2;rw[<-hk1,<-hs1]
 have e2:getV2 (getL ys nm)=.tuple #[.agg #[.int .i64 k2,.int .i64 n2],.bool s2]:=by unfold getV2;rw[<-hk2,<-hs2]
 rw[<-hk1,<-hk2,<-hs1,<-hs2]
 rw[e1] at HG1
 simp only[e2] at HG2
 have c0:=hq.cell (j:=0) rfl
 have HQ:=qH hq
 have heq:=eqWd k1 n1 k2 n2
 have hgt:Tryz.prog.eqGuardType Tryz.prog.depth 31=false:=by kernel_rfl
 clear hk1 hk2 hs1 hs2 e1 e2 h h' hq
 generalize (k1 == k2 && n1 == n2)=bw at heq ⊢
 go_enter Tryz.func210,Tryz.ntmps210
 go_wp2_with fail
 refine HG1.out.mono ?_
 rintro e w1 ⟨rfl,hb1⟩
 have ha1:=below1 w1 (.cells #[.int .i64 k1,.int .i64 n1] 31)
 have hkk1:=Blk.made w1 31 #[.int .i64 k1,.int .i64 n1]
 have hbb1:=up2 hb1 ha1
 have c1:=(HQ.out.up hbb1).cell (j:=0) rfl
 have X1:=qH (⟨hbb1,hkk1⟩:_/\_)
 have HG2':=qH (HG2.out _ hbb1)
 clear hb1 ha1 hkk1 hbb1 c0
 go_wp2_with fail
 refine HG2'.out.mono ?_
 rintro e w2 ⟨rfl,hb2⟩
 have ha2:=below1 w2 (.cells #[.int .i64 k2,.int .i64 n2] 31)
 have hkk2:=Blk.made w2 31 #[.int .i64 k2,.int .i64 n2]
 have hk1:=(X1.out.2.up hb2).up ha2
 have p0:=hk1.cell (j:=0) rfl
 have p1:=hk1.cell (j:=1) rfl
 have q0:=hkk2.cell (j:=0) rfl
 have q1:=hkk2.cell (j:=1) rfl
 have B2:=qH (up2 (up2 X1.out.1 hb2) ha2)
 clear hb2 ha2 hkk2 hk1 c1
 cases bw
 ·go_wp2_with fail
  go_ret
  exact⟨rfl,B2.out⟩
 ·cases s1<;>cases s2
  all_goals
   go_wp2_with fail
   go_ret
   exact⟨rfl,B2.out⟩
def PSame (w:World) (F:FuncId) (caps:Array Value) (same:List PropE->List PropE->Bool):Prop:=
 ∀ (w1:World),Below w.heap.size w w1->∀(A A':Option Addr) (c c':Nat) (xs ys:List PropE),RSl encP w1 A xs->RSl encP w1 A' ys->xs.length<=64->ys.length<=64 ->
   Calls Tryz.prog F (#[.slice A xs.length c,.slice A' ys.length c']++caps) w1 fun e w2=>e=.returned (.bool (same xs ys))/\Below w1.heap.size w1 w2
def condP (same:List PropE->List PropE->Bool) (P:List Pc) (a most e:Int):Bool:=decide (e > a) && decide (e<most) && !same (listP P a) (listP P e)
theorem nextP_eq (same:List PropE->List PropE->Bool) (P:List Pc) (a most:Int):nextP same P a most=match (endsP P).find? (condP same P a most) with|some b=>b|none=>most:=rfl
theorem nextP_none {same:List PropE->List PropE->Bool} {P:List Pc} {a most:Int} (h:∀ x ∈ P,condP same P a most x.f=false/\condP same P a most x.t=false):nextP same P a most=most:=by
 rw[nextP_eq]
 have:(endsP P).find? (condP same P a most)=none:=by
  rw[List.find?_eq_none]
  intro e he
  unfold endsP at he
  obtain⟨x,hx,he⟩:=List.mem_flatMap.1 he
  simp at he
  rcases he with rfl|rfl
  ·rw[(h x hx).1];simp
  ·rw[(h x hx).2];simp
 rw[this]
theorem nextP_some {same:List PropE->List PropE->Bool} {P:List Pc} {a most e:Int} {k:Nat} {x:Pc} (hk:P[k]?=some x) (h:∀ j y,j<k->P[j]?=some y->condP same P a most y.f=false/\condP same P a most y.t=false)
  (he:(e=x.f\/(e=x.t/\condP same P a most x.f=false)) ) (hc:condP same P a most e=true):nextP same P a most=e:=by
 rw[nextP_eq]
 obtain⟨hkl,hke⟩:=List.getElem?_eq_some_iff.1 hk
 have hs:P=P.take k++x :: P.drop (k+1):=by rw[<-hke,<-List.drop_eq_getElem_cons hkl,List.take_append_drop]
 have hpre:(endsP (P.take k)).find? (condP same P a most)=none:=by
  rw[List.find?_eq_none]
  intro z hz
  unfold endsP at hz
  obtain⟨y,hy,hz⟩:=List.mem_flatMap.1 hz
  obtain⟨j,hj,hy⟩:=mem_take_get hy
  simp at hz
  rcases hz with rfl|rfl
  ·rw[(h j y hj hy).1];simp
  ·rw[(h j y hj hy).2];simp
 have:(endsP P).find? (condP same P a most)=some e:=by
  have hE:endsP P=endsP (P.take k)++(x.f :: x.t :: endsP (P.drop (k+1))):=by
   conv=>lhs;rw[hs]
   unfold endsP
   simp
  rw[hE,List.find?_append,hpre,Option.none_or]
  rcases he with rfl|⟨rfl,hf⟩
  ·rw[List.find?_cons,hc]
  ·rw[List.find?_cons,hf,List.find?_cons,hc]
 rw[this]
theorem idx2_0 (f t:Int) (w:World):(Instr.index 211 (.agg #[.int .i64 f,.int .i64 t]) (.int .i64 0)).run Tryz.prog w=.ok (.int .i64 f) w:=by kernel_rfl
theorem idx2_1 (f t:Int) (w:World):(Instr.index 211 (.agg #[.int .i64 f,.int .i64 t]) (.int .i64 1)).run Tryz.prog w=.ok (.int .i64 t) w:=by kernel_rfl
set_option maxRecDepth 100000 in
set_option maxHeartbeats 8000000 in
theorem pnext {F:FuncId} {caps:Array Value} {same:List PropE->List PropE->Bool} (h:PrsAt w b v L R) (hF:PSame w F caps same) (hFE:Ovs.Enters F) (a most:Int) :
  Calls Tryz.prog 207 #[.pointer (some ⟨b,0,none⟩),.int .i64 a,.int .i64 most,.func (.func F) #[] caps] w fun e w'=>e=.returned (.int .i64 (nextP same (L.map PcE.dat) a most))/\Below w.heap.size w w':=by
 have HN:=qH (pnone h)
 have HLi:=qH (plist h a)
 have hlen:=h.len
 have H:=qH h
 obtain⟨Ao,co,hoe,hor,hol,_⟩:=listE_reads h a
 rw[hoe] at HLi
 have HO:=qH (⟨hor,hol⟩:_/\_)
 have HF:=qH hF
 have hin:∀(args:Array Value) (w:World),(callFunc F args).run Tryz.prog w=.ok (.enter F args) w:=hFE
 obtain⟨Av,c,rfl,hvc,hvm,hRv⟩:=h.own.shape eltPc
 have HS:=qH hRv
 obtain⟨Z,hZ⟩:∃ z,z=nextP same (L.map PcE.dat) a most:=⟨_,rfl⟩
 rw[<-hZ]
 have HZ:=qH hZ
 obtain⟨os,hos⟩:∃ z,z=listP (L.map PcE.dat) a:=⟨_,rfl⟩
 rw[<-hos] at HLi HO
 have HOS:=qH hos
 clear h hF hFE hoe hor hol hRv hZ hos
 go_enter Tryz.func207,Tryz.ntmps207
 go_wp2_with fail
 refine HN.out.mono ?_
 rintro e w0 ⟨rfl,rfl⟩
 go_wp2_with fail
 refine HLi.out.mono ?_
 rintro e w1 ⟨rfl,hb1⟩
 have h1:=H.out.up hb1
 have cz:=h1.blk.cell (j:=0) rfl
 have B1:=qH hb1
 clear h1 hb1
 go_wp2_with fail
 go_loopw [25] (fun va wr=>∃ k:Nat,k<=L.length/\va=.int .i64 k/\(∀ j y,j<k->(L.map PcE.dat)[j]?=some y->condP same (L.map PcE.dat) a most y.f=false/\condP same (L.map PcE.dat) a most y.t=false)/\Below w.heap.size w wr) (fun va _=>L.length -(intOf va).toNat)
 case atStart=>exact⟨0,by omega,rfl,fun j y hj=>by omega,B1.out⟩
 case round=>
  obtain⟨k,hk,rfl,hno,hbr⟩:=hrel
  have NO:=qH hno
  have BR:=qH hbr
  by_cases hlt:k<L.length
  ·obtain⟨⟨pf,pt,pA,pc,pp⟩,hx⟩:∃ x,L[k]?=some x:=⟨_,List.getElem?_eq_getElem hlt⟩
   obtain⟨gg,o,hAe,hgg,hc⟩:=(HS.out.up hbr).at_ eltPc hx
   cases hAe
   have e0:=hc 0 _ rfl
   have e1:=hc 1 _ rfl
   have e2:=hc 2 _ rfl
   simp only[<-Nat.add_assoc,Nat.add_zero] at e0 e1 e2
   have d0:decide ((k:Int)<L.length)=true:=decide_eq_true (by omega)
   have lt1:(k:Int)<L.length:=by omega
   have d01:(k<L.length)=True:=eq_true hlt
   have HX:=qH (dat_get hx)
   have hb6:=below1 wr (.cells #[.int .i64 pf,.int .i64 pt,.slice pA pp.length pc] 190)
   have hk6:=Blk.made wr 190 #[.int .i64 pf,.int .i64 pt,.slice pA pp.length pc]
   have k0:=hk6.cell (j:=0) rfl
   have k1:=hk6.cell (j:=1) rfl
   have k2:=hk6.cell (j:=2) rfl
   have B6:=qH (up2 hbr hb6)
   clear hc hx hno hbr hb6 hk6 hlt
   go_wp2_with fail
   clear e0 e1 e2 k0 k1 k2
   generalize wr.alloc (.cells #[.int .i64 pf,.int .i64 pt,.slice pA pp.length pc] 190)=W6 at *
   go_loopw [36] (fun va wz=>∃ j:Nat,j<=2/\va=.int .i64 j/\(0<j->condP same (L.map PcE.dat) a most pf=false)/\(1<j->condP same (L.map PcE.dat) a most pt=false)/\Below w.heap.size w wz) (fun va _=>2 -(intOf va).toNat)
   case atStart=>exact⟨0,by omega,rfl,fun h=>by omega,fun h=>by omega,B6.out⟩
   case round=>
    obtain⟨j,hj,rfl,hj0,hj1,hbz⟩:=hrel
    have J0:=qH hj0
    have J1:=qH hj1
    have BZ:=qH hbz
    clear hj0 hj1 hbz
    rcases (by omega:j=0\/j=1\/j=2) with rfl|rfl|rfl
    ·have ix:=fun w=>idx2_0 pf pt w
     by_cases hE1:a<pf
     ·have u0:decide (a<pf)=true:=decide_eq_true hE1
      have u1:(a<pf)=True:=eq_true hE1
      by_cases hE2:pf<most
      ·have u2:decide (pf<most)=true:=decide_eq_true hE2
       have u3:(pf<most)=True:=eq_true hE2
       have hz:=H.out.up BZ.out
       obtain⟨Al,cl,hle,hlr,hll,_⟩:=listE_reads hz pf
       have HL2:=qH (plist hz pf)
       rw[hle] at HL2
       obtain⟨ls,hls⟩:∃ z,z=listP (L.map PcE.dat) pf:=⟨_,rfl⟩
       rw[<-hls] at HL2 hlr hll
       have HLS:=qH hls
       have HR2:=qH (⟨hlr,hll⟩:_/\_)
       have hcond:condP same (L.map PcE.dat) a most pf=!same os ls:=by unfold condP;rw[decide_eq_true (show pf > a from hE1),decide_eq_true hE2,<-HOS.out,<-hls];rfl
       have HC:=qH hcond
       clear hz hle hlr hll hls hcond hE1 hE2
       go_wp2_with fail
       refine HL2.out.mono ?_
       rintro r w2 ⟨rfl,hb2⟩
       have hsm:=HF.out w2 (up2 BZ.out hb2) Ao Al co cl os ls (HO.out.1.up (up2 BZ.out hb2)) (HR2.out.1.up hb2) HO.out.2 HR2.out.2
       have HSM:=qH hsm
       have B2:=qH (up2 BZ.out hb2)
       clear hsm hb2 HL2
       obtain⟨r,hr⟩:∃ r,r=same os ls:=⟨_,rfl⟩
       rw[<-hr] at HSM HC
       clear hr
       cases r with
       | false=>
         go_wp2_with fail
         refine Calls.mono (by simpa using HSM.out) ?_
         rintro r w3 ⟨rfl,hb3⟩
         have B3:=qH (up2 B2.out hb3)
         clear hb3 HSM
         go_wp2_with fail
         go_ret
         exact⟨by rw[HZ.out,nextP_some HX.out NO.out (.inl rfl) HC.out];rfl,B3.out⟩
       | true=>
         go_wp2_with fail
         refine Calls.mono (by simpa using HSM.out) ?_
         rintro r w3 ⟨rfl,hb3⟩
         have BZF:=qH (up2 B2.out hb3)
         clear hb3 HSM
         go_wp2_with fail
         go_roundw
         case rel=>refine⟨1,by omega,by first|rfl|go_num,fun _=>HC.out,fun h=>by omega,BZF.out⟩
         case measure=>simp[intOf]
      ·have u2:decide (pf<most)=false:=decide_eq_false hE2
       have u3:(pf<most)=False:=eq_false hE2
       have hcond:condP same (L.map PcE.dat) a most pf=false:=by unfold condP;rw[decide_eq_false hE2];simp
       have HC:=qH hcond
       have BZF:=BZ
       clear hcond hE1 hE2
       go_wp2_with fail
       go_roundw
       case rel=>refine⟨1,by omega,by first|rfl|go_num,fun _=>HC.out,fun h=>by omega,BZF.out⟩
       case measure=>simp[intOf]
     ·have u0:decide (a<pf)=false:=decide_eq_false hE1
      have u1:(a<pf)=False:=eq_false hE1
      have hcond:condP same (L.map PcE.dat) a most pf=false:=by unfold condP;rw[decide_eq_false (show ¬ pf > a from hE1)];simp
      have HC:=qH hcond
      have BZF:=BZ
      clear hcond hE1
      go_wp2_with fail
      go_roundw
      case rel=>refine⟨1,by omega,by first|rfl|go_num,fun _=>HC.out,fun h=>by omega,BZF.out⟩
      case measure=>simp[intOf]
    ·have ix:=fun w=>idx2_1 pf pt w
     by_cases hE1:a<pt
     ·have u0:decide (a<pt)=true:=decide_eq_true hE1
      have u1:(a<pt)=True:=eq_true hE1
      by_cases hE2:pt<most
      ·have u2:decide (pt<most)=true:=decide_eq_true hE2
       have u3:(pt<most)=True:=eq_true hE2
       have hz:=H.out.up BZ.out
       obtain⟨Al,cl,hle,hlr,hll,_⟩:=listE_reads hz pt
       have HL2:=qH (plist hz pt)
       rw[hle] at HL2
       obtain⟨ls,hls⟩:∃ z,z=listP (L.map PcE.dat) pt:=⟨_,rfl⟩
       rw[<-hls] at HL2 hlr hll
       have HLS:=qH hls
       have HR2:=qH (⟨hlr,hll⟩:_/\_)
       have hcond:condP same (L.map PcE.dat) a most pt=!same os ls:=by unfold condP;rw[decide_eq_true (show pt > a from hE1),decide_eq_true hE2,<-HOS.out,<-hls];rfl
       have HC:=qH hcond
       clear hz hle hlr hll hls hcond hE1 hE2
       go_wp2_with fail
       refine HL2.out.mono ?_
       rintro r w2 ⟨rfl,hb2⟩
       have hsm:=HF.out w2 (up2 BZ.out hb2) Ao Al co cl os ls (HO.out.1.up (up2 BZ.out hb2)) (HR2.out.1.up hb2) HO.out.2 HR2.out.2
       have HSM:=qH hsm
       have B2:=qH (up2 BZ.out hb2)
       clear hsm hb2 HL2
       obtain⟨r,hr⟩:∃ r,r=same os ls:=⟨_,rfl⟩
       rw[<-hr] at HSM HC
       clear hr
       cases r with
       | false=>
         go_wp2_with fail
         refine Calls.mono (by simpa using HSM.out) ?_
         rintro r w3 ⟨rfl,hb3⟩
         have B3:=qH (up2 B2.out hb3)
         clear hb3 HSM
         go_wp2_with fail
         go_ret
         exact⟨by rw[HZ.out,nextP_some HX.out NO.out (.inr ⟨rfl,J0.out (by omega)⟩) HC.out];rfl,B3.out⟩
       | true=>
         go_wp2_with fail
         refine Calls.mono (by simpa using HSM.out) ?_
         rintro r w3 ⟨rfl,hb3⟩
         have BZF:=qH (up2 B2.out hb3)
         clear hb3 HSM
         go_wp2_with fail
         go_roundw
         case rel=>refine⟨2,by omega,by first|rfl|go_num,fun _=>J0.out (by omega),fun _=>HC.out,BZF.out⟩
         case measure=>simp[intOf]
      ·have u2:decide (pt<most)=false:=decide_eq_false hE2
       have u3:(pt<most)=False:=eq_false hE2
       have hcond:condP same (L.map PcE.dat) a most pt=false:=by unfold condP;rw[decide_eq_false hE2];simp
       have HC:=qH hcond
       have BZF:=BZ
       clear hcond hE1 hE2
       go_wp2_with fail
       go_roundw
       case rel=>refine⟨2,by omega,by first|rfl|go_num,fun _=>J0.out (by omega),fun _=>HC.out,BZF.out⟩
       case measure=>simp[intOf]
     ·have u0:decide (a<pt)=false:=decide_eq_false hE1
      have u1:(a<pt)=False:=eq_false hE1
      have hcond:condP same (L.map PcE.dat) a most pt=false:=by unfold condP;rw[decide_eq_false (show ¬ pt > a from hE1)];simp
      have HC:=qH hcond
      have BZF:=BZ
      clear hcond hE1
      go_wp2_with fail
      go_roundw
      case rel=>refine⟨2,by omega,by first|rfl|go_num,fun _=>J0.out (by omega),fun _=>HC.out,BZF.out⟩
      case measure=>simp[intOf]
    ·go_wp2_with fail
     go_roundw
     case rel=>
      refine⟨k+1,by omega,by first|rfl|go_num,fun j y hj hy=>?_,BZ.out⟩
      rcases Nat.lt_or_ge j k with h|h
      ·exact NO.out j y h hy
      ·obtain rfl:j=k:=by omega
       rw[HX.out] at hy;cases hy
       exact⟨J0.out (by omega),J1.out (by omega)⟩
     case measure=>simp[intOf];omega
  ·have d0:decide ((k:Int)<L.length)=false:=decide_eq_false (by omega)
   have d00:((k:Int)<L.length)=False:=eq_false (by omega)
   have d01:(k<L.length)=False:=eq_false hlt
   clear hno hbr
   go_wp2_with fail
   go_ret
   refine⟨?_,BR.out⟩
   rw[HZ.out,nextP_none fun x hx=>by
    obtain⟨j,hj⟩:=List.mem_iff_getElem?.1 hx
    exact NO.out j x (by have:=(List.getElem?_eq_some_iff.1 hj).1;simp at this;omega) hj]
   rfl
set_option maxRecDepth 100000 in
set_option maxHeartbeats 1000000 in
theorem pnextOf (h:PrsAt w b v L R) (a nm most:Int) :
  Calls Tryz.prog 132 #[.pointer (some ⟨b,0,none⟩),.int .i64 a,.int .i64 nm,.int .i64 most] w fun e w'=>e=.returned (.int .i64 (nextP (sameOf nm) (L.map PcE.dat) a most))/\Below w.heap.size w w':=by
 have hb:=below1 w (.cells #[.int .i64 nm] 3)
 have hk:=Blk.made w 3 #[.int .i64 nm]
 have HX:=qH (pnext (F:=210) (caps:=#[.pointer (some ⟨w.heap.size,0,none⟩)]) (same:=sameOf nm) (h.up hb) (fun w1 hb1 A A' c c' xs ys hr hr' hl hl'=>nextC nm (hk.up hb1) hr hr' c c' (by omega) (by omega)) (Ovs.enters_mk Tryz.func210 (by kernel_rfl) rfl) a most)
 have HB:=qH hb
 clear h hb hk
 go_enter Tryz.func132,Tryz.ntmps132
 go_wp2_with fail
 refine HX.out.mono ?_
 rintro e w1 ⟨rfl,hb1⟩
 have B1:=qH (up2 HB.out hb1)
 clear hb1
 go_wp2_with fail
 go_ret
 exact⟨rfl,B1.out⟩
end
end Go.Proofs.YtkpoodjhjfmfjaaGreatDoor
