/- A part of the proof of BufferNames: package buffer and its parts. -/
import Derived.Test.YtkpoodjhjfmfjaaGreatDoorZ01
import Derived.Laws.MakeOwn
import Derived.Laws.OwnMore
import Derived.Test.YtkpoodjhjfmfjaaGreatDoorZ00
set_option linter.unusedVariables false
set_option linter.unusedSimpArgs false
namespace Go.Proofs.YtkpoodjhjfmfjaaGreatDoor
open Go.RowKit
open Ovs (PropE encP eltP SortedP)
section
variable {w w' : World} {A : Option Addr} {ps : List PropE}
theorem RSl.keptP {α:Type} {enc:α->List Value} {xs:List α} (h:RSl enc w A xs) (hk:0<xs.length->∀ g o,A=some ⟨g,o,none⟩->w'.heap[g]?=w.heap[g]?) (hs:w.heap.size<=w'.heap.size):RSl enc w' A xs:=fun hp=>by
 obtain⟨g,o,e,hg,hc⟩:=h hp
 exact⟨g,o,e,by omega,fun j u hu=>(World.cell?_of_block (w:=w) (a:=⟨g,o+j,none⟩) (hk hp g o e)).trans (hc j u hu)⟩
def LiPost (w:World) (ps:List PropE) (e:Ending) (w':World):Prop:=
 ∃ A c,e=.returned (.slice A ps.length c)/\(RSl encP w' A ps/\ps.length<=c)/\(∀ g o,A=some ⟨g,o,none⟩->w.heap.size<=g)/\Below w.heap.size w w'
theorem LiPost.own {B:Nat} {v:Value} (h:ROwn encP 140 3 B w' v ps) (hB:w.heap.size<=B) (hb:Below w.heap.size w w'):LiPost w ps (.returned v) w':=by
 have hs:=h
 obtain⟨A,c,rfl,hc,_,hR⟩:=hs.shape eltP
 refine⟨A,c,rfl,⟨hR,hc⟩,fun g o e=>?_,hb⟩
 subst e
 rcases h.2 with ⟨e2,_⟩|⟨g',cap,cur,e2,hb2,_⟩
 ·exact absurd e2 (by simp)
 ·simp only[Value.slice.injEq,Option.some.injEq,Addr.mk.injEq] at e2
  have:=e2.1.1;omega
theorem while_split {nm:Int}:∀(ps:List PropE) (i:Nat),i<=ps.length->(∀ j p,j<i->ps[j]?=some p->p.name<nm)->(∀ p,ps[i]?=some p->¬ p.name<nm)->ps.takeWhile (fun y=>decide (y.name<nm))=ps.take i/\ps.dropWhile (fun y=>decide (y.name<nm))=ps.drop i
 | [],i,_,_,_=>by simp
 | a :: ps,0,_,_,h=>by
   have:=h a rfl
   simp[List.takeWhile_cons,List.dropWhile_cons,this]
 | a :: ps,i+1,hi,h1,h2=>by
   have h0:=h1 0 a (by omega) rfl
   obtain⟨a1,a2⟩:=while_split ps i (by simpa using hi) (fun j p hj hp=>h1 (j+1) p (by omega) hp) h2
   rw[List.takeWhile_cons,List.dropWhile_cons,if_pos (by simpa using h0),if_pos (by simpa using h0),a1,a2]
   simp
theorem withP_new {x:PropE} {ps:List PropE} {i:Nat} (hi:i<=ps.length) (h1:∀ j p,j<i->ps[j]?=some p->p.name<x.name) (h2:∀ p,ps[i]?=some p->x.name<p.name):withP x ps=ps.take i++[x]++ps.drop i:=by
 obtain⟨a1,a2⟩:=while_split ps i hi h1 (fun p hp=>by have:=h2 p hp;omega)
 unfold withP
 rw[a1,a2]
 cases hd:ps.drop i with
 | nil=>simp
 | cons y r=>
   have hy:ps[i]?=some y:=by have:=congrArg (fun l=>l[0]?) hd;simpa using this
   have:=h2 y hy
   dsimp only
   rw[if_neg (by omega)]
   simp
theorem withP_old {x y:PropE} {ps:List PropE} {i:Nat} (hi:i<=ps.length) (h1:∀ j p,j<i->ps[j]?=some p->p.name<x.name) (h2:ps[i]?=some y) (he:y.name=x.name):withP x ps=ps.take i++[x]++ps.drop (i+1):=by
 obtain⟨a1,a2⟩:=while_split ps i hi h1 (fun p hp=>by rw[h2] at hp;cases hp;omega)
 unfold withP
 rw[a1,a2]
 have hil:=(List.getElem?_eq_some_iff.1 h2).1
 have hie:=(List.getElem?_eq_some_iff.1 h2).2
 rw[List.drop_eq_getElem_cons hil,hie]
 dsimp only
 rw[if_pos he]
 simp
theorem mk_props (B n:Nat) (hn:n<=1000000) (hB:B<=w.heap.size) :
  ∃ w',(Instr.makeSlice 63 (.int .i64 0) (.int .i64 (n:Int))).run Tryz.prog w=.ok (.slice (some ⟨w.heap.size,0,none⟩) 0 n) w'/\ROwn encP 140 3 B w' (.slice (some ⟨w.heap.size,0,none⟩) 0 n) []/\Below w.heap.size w w'/\w'.heap.size=w.heap.size+1:=by
 obtain⟨i,hi,hz0,hz1,hz2⟩:=info_parts eltP.info
 have hr:=run_makeSlice (P:=Tryz.prog) w 63 140 i (.agg #[.int .i64 0,.int .i64 0,.int .i64 0]) Tryz.underlying63 hi hz0 .i64 .i64 0 n (by omega) (by omega) (by rw[hz1];simp;omega) (by rw[hz2];omega) (by omega)
 simp only[Int.toNat_zero,Int.toNat_natCast] at hr
 refine⟨_,hr,?_,below1 _ _,by simp⟩
 have:=World.ownsRow_made (base:=B) (e:=140) (size:=3) w (madeCells (Value.agg #[.int .i64 0,.int .i64 0,.int .i64 0]).cells (n*i.size)) n hB (by unfold maxLen;omega) (by rw[size_madeCells,hz1])
 exact this
set_option maxRecDepth 100000 in
set_option maxHeartbeats 8000000 in
theorem pwith (x:PropE) (h:RSl encP w A ps) (c:Nat) (hl:ps.length<=1000) (hc:ps.length<=c):Calls Tryz.prog 193 #[.slice A ps.length c,.agg #[.int .i64 x.name,.int .i64 x.kind,.int .i64 x.n]] w (LiPost w (withP x ps)):=by
 obtain⟨xn,xk,xv⟩:=x
 have hb0:=below1 w (.cells #[.int .i64 xn,.int .i64 xk,.int .i64 xv] 140)
 have hk0:=Blk.made w 140 #[.int .i64 xn,.int .i64 xk,.int .i64 xv]
 have hz0:(w.alloc (.cells #[.int .i64 xn,.int .i64 xk,.int .i64 xv] 140)).heap.size=w.heap.size+1:=by simp
 have h0:=h.up hb0
 have s1:IntKind.i64.wrap ((ps.length:Int)+1)=((ps.length+1:Nat):Int):=by rw[IntWalk.i64_in _ (by omega)];omega
 obtain⟨w1,hmk,hown,hb1,hz1⟩:=mk_props (w:=w.alloc (.cells #[.int .i64 xn,.int .i64 xk,.int .i64 xv] 140)) (w.heap.size+1) (ps.length+1) (by omega) (by rw[hz0];omega)
 have h1:=h0.up hb1
 have hk1:=hk0.up hb1
 have HM:=qH (⟨hown,hb0,hb1,hz0,hz1,h1,hk1⟩:_/\_/\_/\_/\_/\_/\_)
 have HL:=qH (⟨hl,hc⟩:_/\_)
 have HA:=qH (fun(hp:0<ps.length) g o (e:A=some ⟨g,o,none⟩)=>RSl.lt h hp e)
 clear h hb0 hk0 h0 hown hb1 hz1 h1 hk1 hc
 rw[hz0,show((ps.length+1:Nat):Int)=(ps.length:Int)+1 by omega] at hmk
 go_enter Tryz.func193,Tryz.ntmps193
 go_wp2_with fail
 clear hmk s1
 go_loopw [5,6] (fun vo vi wr=>∃ i:Nat,i<=ps.length/\vi=.int .i64 i/\ROwn encP 140 3 (w.heap.size+1) wr vo (ps.take i)/\(∀ j p,j<i->ps[j]?=some p->p.name<xn)/\Below (w.heap.size+1) w1 wr) (fun _ vi _=>ps.length -(intOf vi).toNat)
 case atStart=>exact⟨0,by omega,rfl,by simpa using HM.out.1,fun j p hj=>by omega,Below.refl _ _⟩
 case round=>
  obtain⟨i,hi,rfl,hown,hno,hbr⟩:=hrel
  have HO:=qH hown
  have HNO:=qH hno
  have HB:=qH hbr
  have hm:=HM.out
  have hzr:=hbr.size
  have hw1:w1.heap.size=w.heap.size+2:=by have:=hm.2.2.2.1;have:=hm.2.2.2.2.1;omega
  have hkr:Blk wr w.heap.size 140 #[.int .i64 xn,.int .i64 xk,.int .i64 xv]:=hm.2.2.2.2.2.2.kept (hbr.block _ (by omega))
  have b0:=hkr.cell (j:=0) rfl
  have b1:=hkr.cell (j:=1) rfl
  have b2:=hkr.cell (j:=2) rfl
  have hr:RSl encP wr A ps:=hm.2.2.2.2.2.1.keptP (fun hp g o e=>hbr.block g (by have:=hm.2.2.2.2.2.2;have:=HA.out hp g o e;omega)) (by omega)
  obtain⟨Ao,co,rfl,_,_,_⟩:=HO.out.shape eltP
  have hti:(ps.take i).length=i:=by simp;omega
  rw[hti] at HO
  rw[hti]
  have FO:=HO
  have FR:=qH hr
  have FK:=qH hkr
  have FL:=HB
  clear hr hown hno hbr hm hkr
  by_cases hlt:i<ps.length
  ·obtain⟨⟨pn,pk,pv⟩,hx⟩:∃ x,ps[i]?=some x:=⟨_,List.getElem?_eq_getElem hlt⟩
   obtain⟨g,o,rfl,hg,hc⟩:=FR.out.at_ eltP hx
   have e0:=hc 0 _ rfl
   have e1:=hc 1 _ rfl
   have e2:=hc 2 _ rfl
   simp only[<-Nat.add_assoc,Nat.add_zero] at e0 e1 e2
   have d0:decide ((i:Int)<ps.length)=true:=decide_eq_true (by omega)
   have lt1:(i:Int)<ps.length:=by omega
   have d01:(i<ps.length)=True:=eq_true hlt
   have HX:=qH hx
   clear hc hx
   by_cases hpn:pn<xn
   ·have d1:decide (pn<xn)=true:=decide_eq_true hpn
    have p1:(pn<xn)=True:=eq_true hpn
    have HP:=qH hpn
    clear hpn
    go_wp2_with fail
    go_quiet (fail)
    have hoq:ROwn encP 140 3 (w.heap.size+1) (wr.drewN nq) (.slice Ao i co) (ps.take i):=HO.out.kept (fun g hg=>rfl)
    obtain⟨v4,w4,hrun,hown4,hbel4,_,_⟩:=append_elem eltP hoq (by show _<=wr.heap.size;omega) ⟨pn,pk,pv⟩ (by rw[hti];omega) (by omega)
    have HR4:=qH hrun
    have HO4:=qH (⟨hown4,hbel4⟩:_/\_)
    clear hoq hrun hown4 hbel4 b0 b1 b2 FO FR FK FL
    go_wp2_with (at_builtin;refine wpList_app_run rfl _ _ _ rfl rfl rfl HR4.out ?_)
    go_roundw
    case rel=>
     refine⟨i+1,by omega,by go_num,?_,fun j p hj hp=>?_,?_⟩
     ·have:=HO4.out.1
      rw[List.take_add_one,HX.out]
      exact this
     ·rcases Nat.lt_or_ge j i with h1|h1
      ·exact HNO.out j p h1 hp
      ·obtain rfl:j=i:=by omega
       rw[HX.out] at hp;cases hp;exact HP.out
     ·exact(HB.out.trans ⟨HO4.out.2.os,HO4.out.2.tape,HO4.out.2.output,HO4.out.2.size,HO4.out.2.block⟩)
    case measure=>simp[intOf];omega
   ·have d1:decide (pn<xn)=false:=decide_eq_false hpn
    have p1:(pn<xn)=False:=eq_false hpn
    clear HO HB
    by_cases hpe:pn=xn
    ·have d2:(pn == xn)=true:=by simpa using hpe
     have HP:=qH hpe
     have p2:(pn=xn)=True:=eq_true hpe
     clear hpn hpe
     go_wp2_with fail
     go_quiet (fail)
     clear b0 b1 b2 e0 e1 e2
     have hbq:Below wr.heap.size wr (wr.drewN nq):=⟨rfl,rfl,rfl,Nat.le_refl _,fun i _=>rfl⟩
     have hoq:ROwn encP 140 3 (w.heap.size+1) (wr.drewN nq) (.slice Ao i co) (ps.take i):=FO.out.up hbq
     have hrq:RSl encP (wr.drewN nq) _ ps:=FR.out.up hbq
     have hkq:=FK.out.up hbq
     have hlq:Below (w.heap.size+1) w1 (wr.drewN nq):=FL.out.trans (hbq.mono (by have:=FL.out.size;omega))
     clear FO FR FK FL
     generalize wr.drewN nq=Wa at *
     have FO:=qH hoq
     have FR:=qH hrq
     have FK:=qH hkq
     have FL:=qH hlq
     have b0:=hkq.cell (j:=0) rfl
     have b1:=hkq.cell (j:=1) rfl
     have b2:=hkq.cell (j:=2) rfl
     clear hbq hoq hrq hkq hlq
     have hx2:=HX.out
     obtain⟨g2,o2,hA2,_,hc2⟩:=FR.out.at_ eltP HX.out
     cases hA2
     have e0:=hc2 0 _ rfl
     have e1:=hc2 1 _ rfl
     have e2:=hc2 2 _ rfl
     simp only[<-Nat.add_assoc,Nat.add_zero] at e0 e1 e2
     clear hc2 hx2
     go_wp2_with fail
     go_quiet (fail)
     clear b0 b1 b2 e0 e1 e2
     have hbq:Below Wa.heap.size Wa (Wa.drewN nq):=⟨rfl,rfl,rfl,Nat.le_refl _,fun i _=>rfl⟩
     have hoq:ROwn encP 140 3 (w.heap.size+1) (Wa.drewN nq) (.slice Ao i co) (ps.take i):=FO.out.up hbq
     have hrq:RSl encP (Wa.drewN nq) _ ps:=FR.out.up hbq
     have hkq:=FK.out.up hbq
     have hlq:Below (w.heap.size+1) w1 (Wa.drewN nq):=FL.out.trans (hbq.mono (by have:=FL.out.size;omega))
     clear FO FR FK FL
     generalize Wa.drewN nq=Wb at *
     have FO:=qH hoq
     have FR:=qH hrq
     have FK:=qH hkq
     have FL:=qH hlq
     have b0:=hkq.cell (j:=0) rfl
     have b1:=hkq.cell (j:=1) rfl
     have b2:=hkq.cell (j:=2) rfl
     clear hbq hoq hrq hkq hlq
     go_wp2_with fail
     by_cases hcq:c=i+1
     ·skip
      have hzq:=FL.out.size
      obtain⟨v5,w5,hr5,ho5,hg5,_⟩:=append_run eltP (FO.out.up ((below1 Wb (.cells #[.int .i64 xn,.int .i64 xk,.int .i64 xv] 140)).drew)) (by simp;omega) ((RSl.one eltP Wb ⟨xn,xk,xv⟩).up ((Below.refl _ _).drew)) 1 (by rw[hti];simp;omega) (by omega)
      have hl5:Below (w.heap.size+1) Wb w5:=(((Below.refl _ Wb).alloc (by omega) _).drew).grown hg5 (by simp;omega) (fun k hk=>FO.out.base hk)
      have hr5':=(((FR.out.up ((below1 Wb (.cells #[.int .i64 xn,.int .i64 xk,.int .i64 xv] 140)).drew)).keptP (w':=w5) (fun hp g o e=>hg5.block g (by have:=HA.out hp g o e;simp;omega) (fun e2=>by have:=FO.out.base e2.symm;have:=HA.out hp g o e;omega)) hg5.size)).drop eltP (n:=i+1) (cap:=c) (by omega) HL.out.2
      obtain⟨v6,w6,hr6,ho6,hg6,_⟩:=append_run eltP ho5 (by have:=hl5.size;omega) hr5' (c - i+1) (by simp;omega) (by omega)
      rw[if_pos hcq] at hr6
      have hl6:Below (w.heap.size+1) Wb w6:=hl5.grown hg6 (by have:=hl5.size;omega) (fun k hk=>ho5.base hk)
      rw[show(List.drop (i+1) ps).length=ps.length -(i+1) by simp] at hr6
      have X5:=qH hr5
      have X6:=qH hr6
      have XB:=qH (⟨hl5,hl6,ho6⟩:_/\_/\_)
      have hb1:Below (w.heap.size+1) Wb (Wb.alloc (.cells #[.int .i64 xn,.int .i64 xk,.int .i64 xv] 140)).drew:=((Below.refl _ Wb).alloc (by omega) _).drew
      have B0:∀ x:UpW (w.heap.size+1) Wb,x.w.cell? ⟨w.heap.size,0,none⟩=some (.int .i64 xn):=fun x=>(x.up.cell (p:=⟨w.heap.size,0,none⟩) (by simp)).trans b0
      have B1:∀ x:UpW (w.heap.size+1) Wb,x.w.cell? ⟨w.heap.size,1,none⟩=some (.int .i64 xk):=fun x=>(x.up.cell (p:=⟨w.heap.size,1,none⟩) (by simp)).trans b1
      have B2:∀ x:UpW (w.heap.size+1) Wb,x.w.cell? ⟨w.heap.size,2,none⟩=some (.int .i64 xv):=fun x=>(x.up.cell (p:=⟨w.heap.size,2,none⟩) (by simp)).trans b2
      have hq1:(i+1:Int)<=c:=by have:=HL.out;omega
      have hq2:(i+1:Int)<=ps.length:=by omega
      have hq3:(0:Int)<=(i+1:Int):=by omega
      clear hr5 hr6 ho5 ho6 hg5 hg6 hl5 hl6 hr5' b0 b1 b2
      refine wp_region_mix (w.heap.size+1) 9 [([0,1,4,5,6],2),([],3),([],7)] [8] (by kernel_rfl) (fun c d v a w h=>by cases d<;>exact h) (by kernel_rfl) ?_
      simp only[wpMix,pk_nil,pk_cons,pushAt_zero,pushAt_succ,List.drop_succ_cons,List.drop_zero]
      repeat (go_big_quiet_step (fail))
      refine wpQuiet_nil ?_
      clear B0 B1 B2
      go_wp2_with fail
      refine thenQ_normal ⟨⟨⟨_,hb1⟩,rfl⟩,?_⟩
      refine wpQuiet_nil ?_
      go_wp2_with (at_builtin;refine wpList_app_run rfl _ _ _ rfl rfl rfl X5.out ?_)
      refine thenQ_normal ⟨⟨⟨_,XB.out.1⟩,rfl⟩,?_⟩
      refine wpQuiet_nil ?_
      go_wp2_with (at_builtin;refine wpList_app_run rfl _ _ _ rfl rfl rfl X6.out ?_)
      refine thenQ_normal ⟨⟨⟨_,XB.out.2.1⟩,rfl⟩,?_⟩
      repeat (go_big_quiet_step (fail))
      refine wpQuiet_nil ?_
      go_wp2_with fail
      go_ret
      have hE:=withP_old (x:=⟨xn,xk,xv⟩) hi HNO.out HX.out HP.out
      rw[hE]
      have hm:=HM.out
      exact LiPost.own XB.out.2.2 (by omega) ((hm.2.1.trans (hm.2.2.1.mono (by omega))).trans ((FL.out.trans (XB.out.2.1.mono (Nat.le_refl _))).mono (by omega)))
     ·skip
      have hzq:=FL.out.size
      obtain⟨v5,w5,hr5,ho5,hg5,_⟩:=append_run eltP (FO.out.up ((below1 Wb (.cells #[.int .i64 xn,.int .i64 xk,.int .i64 xv] 140)).drew)) (by simp;omega) ((RSl.one eltP Wb ⟨xn,xk,xv⟩).up ((Below.refl _ _).drew)) 1 (by rw[hti];simp;omega) (by omega)
      have hl5:Below (w.heap.size+1) Wb w5:=(((Below.refl _ Wb).alloc (by omega) _).drew).grown hg5 (by simp;omega) (fun k hk=>FO.out.base hk)
      have hr5':=(((FR.out.up ((below1 Wb (.cells #[.int .i64 xn,.int .i64 xk,.int .i64 xv] 140)).drew)).keptP (w':=w5) (fun hp g o e=>hg5.block g (by have:=HA.out hp g o e;simp;omega) (fun e2=>by have:=FO.out.base e2.symm;have:=HA.out hp g o e;omega)) hg5.size)).drop eltP (n:=i+1) (cap:=c) (by omega) HL.out.2
      obtain⟨v6,w6,hr6,ho6,hg6,_⟩:=append_run eltP ho5 (by have:=hl5.size;omega) hr5' (c - i+1) (by simp;omega) (by omega)
      rw[if_neg hcq] at hr6
      have hl6:Below (w.heap.size+1) Wb w6:=hl5.grown hg6 (by have:=hl5.size;omega) (fun k hk=>ho5.base hk)
      rw[show(List.drop (i+1) ps).length=ps.length -(i+1) by simp] at hr6
      have X5:=qH hr5
      have X6:=qH hr6
      have XB:=qH (⟨hl5,hl6,ho6⟩:_/\_/\_)
      have hb1:Below (w.heap.size+1) Wb (Wb.alloc (.cells #[.int .i64 xn,.int .i64 xk,.int .i64 xv] 140)).drew:=((Below.refl _ Wb).alloc (by omega) _).drew
      have B0:∀ x:UpW (w.heap.size+1) Wb,x.w.cell? ⟨w.heap.size,0,none⟩=some (.int .i64 xn):=fun x=>(x.up.cell (p:=⟨w.heap.size,0,none⟩) (by simp)).trans b0
      have B1:∀ x:UpW (w.heap.size+1) Wb,x.w.cell? ⟨w.heap.size,1,none⟩=some (.int .i64 xk):=fun x=>(x.up.cell (p:=⟨w.heap.size,1,none⟩) (by simp)).trans b1
      have B2:∀ x:UpW (w.heap.size+1) Wb,x.w.cell? ⟨w.heap.size,2,none⟩=some (.int .i64 xv):=fun x=>(x.up.cell (p:=⟨w.heap.size,2,none⟩) (by simp)).trans b2
      have hq1:(i+1:Int)<=c:=by have:=HL.out;omega
      have hq2:(i+1:Int)<=ps.length:=by omega
      have hq3:(0:Int)<=(i+1:Int):=by omega
      clear hr5 hr6 ho5 ho6 hg5 hg6 hl5 hl6 hr5' b0 b1 b2
      refine wp_region_mix (w.heap.size+1) 9 [([0,1,4,5,6],2),([],3),([],7)] [8] (by kernel_rfl) (fun c d v a w h=>by cases d<;>exact h) (by kernel_rfl) ?_
      simp only[wpMix,pk_nil,pk_cons,pushAt_zero,pushAt_succ,List.drop_succ_cons,List.drop_zero]
      repeat (go_big_quiet_step (fail))
      refine wpQuiet_nil ?_
      clear B0 B1 B2
      go_wp2_with fail
      refine thenQ_normal ⟨⟨⟨_,hb1⟩,rfl⟩,?_⟩
      refine wpQuiet_nil ?_
      go_wp2_with (at_builtin;refine wpList_app_run rfl _ _ _ rfl rfl rfl X5.out ?_)
      refine thenQ_normal ⟨⟨⟨_,XB.out.1⟩,rfl⟩,?_⟩
      refine wpQuiet_nil ?_
      go_wp2_with (at_builtin;refine wpList_app_run rfl _ _ _ rfl rfl rfl X6.out ?_)
      refine thenQ_normal ⟨⟨⟨_,XB.out.2.1⟩,rfl⟩,?_⟩
      repeat (go_big_quiet_step (fail))
      refine wpQuiet_nil ?_
      go_wp2_with fail
      go_ret
      have hE:=withP_old (x:=⟨xn,xk,xv⟩) hi HNO.out HX.out HP.out
      rw[hE]
      have hm:=HM.out
      exact LiPost.own XB.out.2.2 (by omega) ((hm.2.1.trans (hm.2.2.1.mono (by omega))).trans ((FL.out.trans (XB.out.2.1.mono (Nat.le_refl _))).mono (by omega)))
    ·have d2:(pn == xn)=false:=by simpa using hpe
     have p2:(pn=xn)=False:=eq_false hpe
     have HP:=qH (show xn<pn by omega)
     clear hpn hpe
     go_wp2_with fail
     go_quiet (fail)
     clear b0 b1 b2 e0 e1 e2
     have hbq:Below wr.heap.size wr (wr.drewN nq):=⟨rfl,rfl,rfl,Nat.le_refl _,fun i _=>rfl⟩
     have hoq:ROwn encP 140 3 (w.heap.size+1) (wr.drewN nq) (.slice Ao i co) (ps.take i):=FO.out.up hbq
     have hrq:RSl encP (wr.drewN nq) _ ps:=FR.out.up hbq
     have hkq:=FK.out.up hbq
     have hlq:Below (w.heap.size+1) w1 (wr.drewN nq):=FL.out.trans (hbq.mono (by have:=FL.out.size;omega))
     clear FO FR FK FL
     generalize wr.drewN nq=Wa at *
     have FO:=qH hoq
     have FR:=qH hrq
     have FK:=qH hkq
     have FL:=qH hlq
     have b0:=hkq.cell (j:=0) rfl
     have b1:=hkq.cell (j:=1) rfl
     have b2:=hkq.cell (j:=2) rfl
     clear hbq hoq hrq hkq hlq
     have hx2:=HX.out
     obtain⟨g2,o2,hA2,_,hc2⟩:=FR.out.at_ eltP HX.out
     cases hA2
     have e0:=hc2 0 _ rfl
     have e1:=hc2 1 _ rfl
     have e2:=hc2 2 _ rfl
     simp only[<-Nat.add_assoc,Nat.add_zero] at e0 e1 e2
     clear hc2 hx2
     go_wp2_with fail
     go_quiet (fail)
     clear b0 b1 b2 e0 e1 e2
     have hbq:Below Wa.heap.size Wa (Wa.drewN nq):=⟨rfl,rfl,rfl,Nat.le_refl _,fun i _=>rfl⟩
     have hoq:ROwn encP 140 3 (w.heap.size+1) (Wa.drewN nq) (.slice Ao i co) (ps.take i):=FO.out.up hbq
     have hrq:RSl encP (Wa.drewN nq) _ ps:=FR.out.up hbq
     have hkq:=FK.out.up hbq
     have hlq:Below (w.heap.size+1) w1 (Wa.drewN nq):=FL.out.trans (hbq.mono (by have:=FL.out.size;omega))
     clear FO FR FK FL
     generalize Wa.drewN nq=Wb at *
     have FO:=qH hoq
     have FR:=qH hrq
     have FK:=qH hkq
     have FL:=qH hlq
     have b0:=hkq.cell (j:=0) rfl
     have b1:=hkq.cell (j:=1) rfl
     have b2:=hkq.cell (j:=2) rfl
     clear hbq hoq hrq hkq hlq
     go_wp2_with fail
     have hcq:¬ c=i:=by have:=HL.out;omega
     have hzq:=FL.out.size
     obtain⟨v5,w5,hr5,ho5,hg5,_⟩:=append_run eltP (FO.out.up ((below1 Wb (.cells #[.int .i64 xn,.int .i64 xk,.int .i64 xv] 140)).drew)) (by simp;omega) ((RSl.one eltP Wb ⟨xn,xk,xv⟩).up ((Below.refl _ _).drew)) 1 (by rw[hti];simp;omega) (by omega)
     have hl5:Below (w.heap.size+1) Wb w5:=(((Below.refl _ Wb).alloc (by omega) _).drew).grown hg5 (by simp;omega) (fun k hk=>FO.out.base hk)
     have hr5':=(((FR.out.up ((below1 Wb (.cells #[.int .i64 xn,.int .i64 xk,.int .i64 xv] 140)).drew)).keptP (w':=w5) (fun hp g o e=>hg5.block g (by have:=HA.out hp g o e;simp;omega) (fun e2=>by have:=FO.out.base e2.symm;have:=HA.out hp g o e;omega)) hg5.size)).drop eltP (n:=i) (cap:=c) (by omega) HL.out.2
     obtain⟨v6,w6,hr6,ho6,hg6,_⟩:=append_run eltP ho5 (by have:=hl5.size;omega) hr5' (c - i) (by simp;omega) (by omega)
     rw[if_neg hcq] at hr6
     simp only[Option.map_some,Addr.add] at hr6
     have hl6:Below (w.heap.size+1) Wb w6:=hl5.grown hg6 (by have:=hl5.size;omega) (fun k hk=>ho5.base hk)
     rw[show(List.drop (i) ps).length=ps.length -(i) by simp] at hr6
     have X5:=qH hr5
     have X6:=qH hr6
     have XB:=qH (⟨hl5,hl6,ho6⟩:_/\_/\_)
     have hb1:Below (w.heap.size+1) Wb (Wb.alloc (.cells #[.int .i64 xn,.int .i64 xk,.int .i64 xv] 140)).drew:=((Below.refl _ Wb).alloc (by omega) _).drew
     have B0:∀ x:UpW (w.heap.size+1) Wb,x.w.cell? ⟨w.heap.size,0,none⟩=some (.int .i64 xn):=fun x=>(x.up.cell (p:=⟨w.heap.size,0,none⟩) (by simp)).trans b0
     have B1:∀ x:UpW (w.heap.size+1) Wb,x.w.cell? ⟨w.heap.size,1,none⟩=some (.int .i64 xk):=fun x=>(x.up.cell (p:=⟨w.heap.size,1,none⟩) (by simp)).trans b1
     have B2:∀ x:UpW (w.heap.size+1) Wb,x.w.cell? ⟨w.heap.size,2,none⟩=some (.int .i64 xv):=fun x=>(x.up.cell (p:=⟨w.heap.size,2,none⟩) (by simp)).trans b2
     have hq1:(i:Int)<=c:=by have:=HL.out;omega
     have hq2:(i:Int)<=ps.length:=by omega
     have hq3:(0:Int)<=(i:Int):=by omega
     clear hr5 hr6 ho5 ho6 hg5 hg6 hl5 hl6 hr5' b0 b1 b2
     refine wp_region_mix (w.heap.size+1) 9 [([0,1,4,5,6],2),([],3),([],7)] [8] (by kernel_rfl) (fun c d v a w h=>by cases d<;>exact h) (by kernel_rfl) ?_
     simp only[wpMix,pk_nil,pk_cons,pushAt_zero,pushAt_succ,List.drop_succ_cons,List.drop_zero]
     repeat (go_big_quiet_step (fail))
     refine wpQuiet_nil ?_
     clear B0 B1 B2
     go_wp2_with fail
     refine thenQ_normal ⟨⟨⟨_,hb1⟩,rfl⟩,?_⟩
     refine wpQuiet_nil ?_
     go_wp2_with (at_builtin;refine wpList_app_run rfl _ _ _ rfl rfl rfl X5.out ?_)
     refine thenQ_normal ⟨⟨⟨_,XB.out.1⟩,rfl⟩,?_⟩
     refine wpQuiet_nil ?_
     go_wp2_with (at_builtin;refine wpList_app_run rfl _ _ _ rfl rfl (by first|(simp[Act.eval];done)|rfl) X6.out ?_)
     refine thenQ_normal ⟨⟨⟨_,XB.out.2.1⟩,rfl⟩,?_⟩
     repeat (go_big_quiet_step (fail))
     refine wpQuiet_nil ?_
     go_wp2_with fail
     go_ret
     have hE:=withP_new (x:=⟨xn,xk,xv⟩) hi HNO.out (fun p hp=>by rw[HX.out] at hp;cases hp;exact HP.out)
     rw[hE]
     have hm:=HM.out
     exact LiPost.own XB.out.2.2 (by omega) ((hm.2.1.trans (hm.2.2.1.mono (by omega))).trans ((FL.out.trans (XB.out.2.1.mono (Nat.le_refl _))).mono (by omega)))
  ·obtain rfl:i=ps.length:=by omega
   clear HO HB
   go_wp2_with fail
   go_quiet (fail)
   clear b0 b1 b2
   have hbq:Below wr.heap.size wr (wr.drewN nq):=⟨rfl,rfl,rfl,Nat.le_refl _,fun i _=>rfl⟩
   have hoq:ROwn encP 140 3 (w.heap.size+1) (wr.drewN nq) (.slice Ao ps.length co) (ps.take ps.length):=FO.out.up hbq
   have hrq:RSl encP (wr.drewN nq) _ ps:=FR.out.up hbq
   have hkq:=FK.out.up hbq
   have hlq:Below (w.heap.size+1) w1 (wr.drewN nq):=FL.out.trans (hbq.mono (by have:=FL.out.size;omega))
   clear FO FR FK FL
   generalize wr.drewN nq=Wa at *
   have FO:=qH hoq
   have FR:=qH hrq
   have FK:=qH hkq
   have FL:=qH hlq
   have b0:=hkq.cell (j:=0) rfl
   have b1:=hkq.cell (j:=1) rfl
   have b2:=hkq.cell (j:=2) rfl
   clear hbq hoq hrq hkq hlq
   go_wp2_with fail
   go_quiet (fail)
   clear b0 b1 b2
   have hbq:Below Wa.heap.size Wa (Wa.drewN nq):=⟨rfl,rfl,rfl,Nat.le_refl _,fun i _=>rfl⟩
   have hoq:ROwn encP 140 3 (w.heap.size+1) (Wa.drewN nq) (.slice Ao ps.length co) (ps.take ps.length):=FO.out.up hbq
   have hrq:RSl encP (Wa.drewN nq) _ ps:=FR.out.up hbq
   have hkq:=FK.out.up hbq
   have hlq:Below (w.heap.size+1) w1 (Wa.drewN nq):=FL.out.trans (hbq.mono (by have:=FL.out.size;omega))
   clear FO FR FK FL
   generalize Wa.drewN nq=Wb at *
   have FO:=qH hoq
   have FR:=qH hrq
   have FK:=qH hkq
   have FL:=qH hlq
   have b0:=hkq.cell (j:=0) rfl
   have b1:=hkq.cell (j:=1) rfl
   have b2:=hkq.cell (j:=2) rfl
   clear hbq hoq hrq hkq hlq
   go_wp2_with fail
   by_cases hcq:c=ps.length
   ·subst hcq
    have hzq:=FL.out.size
    obtain⟨v5,w5,hr5,ho5,hg5,_⟩:=append_run eltP (FO.out.up ((below1 Wb (.cells #[.int .i64 xn,.int .i64 xk,.int .i64 xv] 140)).drew)) (by simp;omega) ((RSl.one eltP Wb ⟨xn,xk,xv⟩).up ((Below.refl _ _).drew)) 1 (by rw[hti];simp;omega) (by omega)
    have hl5:Below (w.heap.size+1) Wb w5:=(((Below.refl _ Wb).alloc (by omega) _).drew).grown hg5 (by simp;omega) (fun k hk=>FO.out.base hk)
    obtain⟨v6,w6,hr6,ho6,hg6,_⟩:=append_run eltP ho5 (by have:=hl5.size;omega) (RSl.nil w5 (A:Option Addr)) 0 (by simp;omega) (by omega)
    simp only[List.length_nil,List.append_nil] at hr6 ho6
    have hl6:Below (w.heap.size+1) Wb w6:=hl5.grown hg6 (by have:=hl5.size;omega) (fun k hk=>ho5.base hk)
    skip
    have X5:=qH hr5
    have X6:=qH hr6
    have XB:=qH (⟨hl5,hl6,ho6⟩:_/\_/\_)
    have hb1:Below (w.heap.size+1) Wb (Wb.alloc (.cells #[.int .i64 xn,.int .i64 xk,.int .i64 xv] 140)).drew:=((Below.refl _ Wb).alloc (by omega) _).drew
    have B0:∀ x:UpW (w.heap.size+1) Wb,x.w.cell? ⟨w.heap.size,0,none⟩=some (.int .i64 xn):=fun x=>(x.up.cell (p:=⟨w.heap.size,0,none⟩) (by simp)).trans b0
    have B1:∀ x:UpW (w.heap.size+1) Wb,x.w.cell? ⟨w.heap.size,1,none⟩=some (.int .i64 xk):=fun x=>(x.up.cell (p:=⟨w.heap.size,1,none⟩) (by simp)).trans b1
    have B2:∀ x:UpW (w.heap.size+1) Wb,x.w.cell? ⟨w.heap.size,2,none⟩=some (.int .i64 xv):=fun x=>(x.up.cell (p:=⟨w.heap.size,2,none⟩) (by simp)).trans b2
    have hq1:(ps.length:Int)<=ps.length:=by have:=HL.out;omega
    have hq2:(ps.length:Int)<=ps.length:=by omega
    have hq3:(0:Int)<=(ps.length:Int):=by omega
    clear hr5 hr6 ho5 ho6 hg5 hg6 hl5 hl6 b0 b1 b2
    refine wp_region_mix (w.heap.size+1) 9 [([0,1,4,5,6],2),([],3),([],7)] [8] (by kernel_rfl) (fun c d v a w h=>by cases d<;>exact h) (by kernel_rfl) ?_
    simp only[wpMix,pk_nil,pk_cons,pushAt_zero,pushAt_succ,List.drop_succ_cons,List.drop_zero]
    repeat (go_big_quiet_step (fail))
    refine wpQuiet_nil ?_
    clear B0 B1 B2
    go_wp2_with fail
    refine thenQ_normal ⟨⟨⟨_,hb1⟩,rfl⟩,?_⟩
    refine wpQuiet_nil ?_
    go_wp2_with (at_builtin;refine wpList_app_run rfl _ _ _ rfl rfl rfl X5.out ?_)
    refine thenQ_normal ⟨⟨⟨_,XB.out.1⟩,rfl⟩,?_⟩
    refine wpQuiet_nil ?_
    go_wp2_with (at_builtin;refine wpList_app_run rfl _ _ _ rfl rfl (by first|(simp[Act.eval];done)|rfl) X6.out ?_)
    refine thenQ_normal ⟨⟨⟨_,XB.out.2.1⟩,rfl⟩,?_⟩
    repeat (go_big_quiet_step (fail))
    refine wpQuiet_nil ?_
    go_wp2_with fail
    go_ret
    have hE:=show withP ⟨xn,xk,xv⟩ ps=ps.take ps.length++[⟨xn,xk,xv⟩] by rw[withP_new (x:=⟨xn,xk,xv⟩) hi HNO.out (fun p hp=>by rw[List.getElem?_eq_none (by omega)] at hp;cases hp),List.drop_length,List.append_nil]
    rw[hE]
    have hm:=HM.out
    exact LiPost.own XB.out.2.2 (by omega) ((hm.2.1.trans (hm.2.2.1.mono (by omega))).trans ((FL.out.trans (XB.out.2.1.mono (Nat.le_refl _))).mono (by omega)))
   ·skip
    have hzq:=FL.out.size
    obtain⟨v5,w5,hr5,ho5,hg5,_⟩:=append_run eltP (FO.out.up ((below1 Wb (.cells #[.int .i64 xn,.int .i64 xk,.int .i64 xv] 140)).drew)) (by simp;omega) ((RSl.one eltP Wb ⟨xn,xk,xv⟩).up ((Below.refl _ _).drew)) 1 (by rw[hti];simp;omega) (by omega)
    have hl5:Below (w.heap.size+1) Wb w5:=(((Below.refl _ Wb).alloc (by omega) _).drew).grown hg5 (by simp;omega) (fun k hk=>FO.out.base hk)
    obtain⟨v6,w6,hr6,ho6,hg6,_⟩:=append_run eltP ho5 (by have:=hl5.size;omega) (RSl.nil w5 (A.map (·.add (ps.length*3)):Option Addr)) (c - ps.length) (by simp;omega) (by omega)
    simp only[List.length_nil,List.append_nil] at hr6 ho6
    have hl6:Below (w.heap.size+1) Wb w6:=hl5.grown hg6 (by have:=hl5.size;omega) (fun k hk=>ho5.base hk)
    skip
    have X5:=qH hr5
    have X6:=qH hr6
    have XB:=qH (⟨hl5,hl6,ho6⟩:_/\_/\_)
    have hb1:Below (w.heap.size+1) Wb (Wb.alloc (.cells #[.int .i64 xn,.int .i64 xk,.int .i64 xv] 140)).drew:=((Below.refl _ Wb).alloc (by omega) _).drew
    have B0:∀ x:UpW (w.heap.size+1) Wb,x.w.cell? ⟨w.heap.size,0,none⟩=some (.int .i64 xn):=fun x=>(x.up.cell (p:=⟨w.heap.size,0,none⟩) (by simp)).trans b0
    have B1:∀ x:UpW (w.heap.size+1) Wb,x.w.cell? ⟨w.heap.size,1,none⟩=some (.int .i64 xk):=fun x=>(x.up.cell (p:=⟨w.heap.size,1,none⟩) (by simp)).trans b1
    have B2:∀ x:UpW (w.heap.size+1) Wb,x.w.cell? ⟨w.heap.size,2,none⟩=some (.int .i64 xv):=fun x=>(x.up.cell (p:=⟨w.heap.size,2,none⟩) (by simp)).trans b2
    have hq1:(ps.length:Int)<=c:=by have:=HL.out;omega
    have hq2:(ps.length:Int)<=ps.length:=by omega
    have hq3:(0:Int)<=(ps.length:Int):=by omega
    clear hr5 hr6 ho5 ho6 hg5 hg6 hl5 hl6 b0 b1 b2
    refine wp_region_mix (w.heap.size+1) 9 [([0,1,4,5,6],2),([],3),([],7)] [8] (by kernel_rfl) (fun c d v a w h=>by cases d<;>exact h) (by kernel_rfl) ?_
    simp only[wpMix,pk_nil,pk_cons,pushAt_zero,pushAt_succ,List.drop_succ_cons,List.drop_zero]
    repeat (go_big_quiet_step (fail))
    refine wpQuiet_nil ?_
    clear B0 B1 B2
    go_wp2_with fail
    refine thenQ_normal ⟨⟨⟨_,hb1⟩,rfl⟩,?_⟩
    refine wpQuiet_nil ?_
    go_wp2_with (at_builtin;refine wpList_app_run rfl _ _ _ rfl rfl rfl X5.out ?_)
    refine thenQ_normal ⟨⟨⟨_,XB.out.1⟩,rfl⟩,?_⟩
    refine wpQuiet_nil ?_
    go_wp2_with (at_builtin;refine wpList_app_run rfl _ _ _ rfl rfl (by first|(simp[Act.eval];done)|rfl) X6.out ?_)
    refine thenQ_normal ⟨⟨⟨_,XB.out.2.1⟩,rfl⟩,?_⟩
    repeat (go_big_quiet_step (fail))
    refine wpQuiet_nil ?_
    go_wp2_with fail
    go_ret
    have hE:=show withP ⟨xn,xk,xv⟩ ps=ps.take ps.length++[⟨xn,xk,xv⟩] by rw[withP_new (x:=⟨xn,xk,xv⟩) hi HNO.out (fun p hp=>by rw[List.getElem?_eq_none (by omega)] at hp;cases hp),List.drop_length,List.append_nil]
    rw[hE]
    have hm:=HM.out
    exact LiPost.own XB.out.2.2 (by omega) ((hm.2.1.trans (hm.2.2.1.mono (by omega))).trans ((FL.out.trans (XB.out.2.1.mono (Nat.le_refl _))).mono (by omega)))
end
end Go.Proofs.YtkpoodjhjfmfjaaGreatDoor
namespace Go.Proofs.YtkpoodjhjfmfjaaGreatDoor
open Go.RowKit
open Ovs (PropE encP eltP SortedP)
section
variable {w w' : World} {A : Option Addr} {ps : List PropE}
set_option maxHeartbeats 400000 in
theorem withoutC (x:PropE) (q:Nat) (nm:Int) (hq:w.cell? ⟨q,0,none⟩=some (.int .i64 nm)) (hql:q<w.heap.size):Calls Tryz.prog 288 #[.agg #[.int .i64 x.name,.int .i64 x.kind,.int .i64 x.n],.pointer (some ⟨q,0,none⟩)] w fun e w'=>e=.returned (.bool (x.name == nm))/\Below w.heap.size w w':=by
 have hb:=below1 w (.cells #[.int .i64 x.name,.int .i64 x.kind,.int .i64 x.n] 140)
 have hq1:=(hb.cell (p:=⟨q,0,none⟩) hql).trans hq
 have HB:=qH hb
 clear hb hq
 go_enter Tryz.func288,Tryz.ntmps288
 go_wp2_with fail
 go_ret
 exact⟨rfl,HB.out⟩
theorem zeroPr (w:World):(zeroValue 140).run Tryz.prog w=.ok (.agg #[.int .i64 0,.int .i64 0,.int .i64 0]) w:=by kernel_rfl
set_option maxRecDepth 100000 in
set_option maxHeartbeats 1000000 in
theorem idxFn (h:RSl encP w A ps) (c:Nat) (q:Nat) (nm:Int) (hq:w.cell? ⟨q,0,none⟩=some (.int .i64 nm)) (hql:q<w.heap.size) (hl:ps.length<=1000000) :
  Calls Tryz.prog 311 #[.slice A ps.length c,.func (.func 288) #[] #[.pointer (some ⟨q,0,none⟩)]] w fun e w'=>Below w.heap.size w w' /\
   ((e=.returned (.int .i64 (-1))/\ps.findIdx? (fun y=>y.name == nm)=none)\/∃ i:Nat,e=.returned (.int .i64 i)/\ps.findIdx? (fun y=>y.name == nm)=some i):=by
 have H:=qH h
 have HQ:=qH hq
 clear h hq
 go_enter Tryz.func311,Tryz.ntmps311
 go_wp2_with fail
 go_loopw [8] (fun vi wr=>∃ k:Nat,k<=ps.length/\vi=.int .i64 k/\(∀ j x,j<k->ps[j]?=some x->(x.name == nm)=false)/\Below w.heap.size w wr) (fun vi _=>ps.length -(intOf vi).toNat)
 case atStart=>exact⟨0,by omega,rfl,fun j x hj=>by omega,Below.refl _ _⟩
 case round=>
  obtain⟨k,hk,rfl,hall,hbel⟩:=hrel
  have HA:=qH hall
  have HB:=qH hbel
  have hqr:=(hbel.cell (p:=⟨q,0,none⟩) hql).trans HQ.out
  have hzr:=hbel.size
  by_cases hlt:k<ps.length
  ·obtain⟨⟨pn,pk,pv⟩,hx⟩:∃ x,ps[k]?=some x:=⟨_,List.getElem?_eq_getElem hlt⟩
   obtain⟨g,o,rfl,hg,hc⟩:=(H.out.up hbel).at_ eltP hx
   have e0:=hc 0 _ rfl
   have e1:=hc 1 _ rfl
   have e2:=hc 2 _ rfl
   simp only[<-Nat.add_assoc,Nat.add_zero] at e0 e1 e2
   have d0:decide ((k:Int)<ps.length)=true:=decide_eq_true (by omega)
   have lt1:(k:Int)<ps.length:=by omega
   have d01:(k<ps.length)=True:=eq_true hlt
   have HX:=qH hx
   have HC:=qH (withoutC ⟨pn,pk,pv⟩ q nm hqr (by omega))
   clear hc hx hall hbel hqr
   dsimp only at HC
   by_cases hpn:pn=nm
   ·have hp:(pn == nm)=true:=by simpa using hpn
    rw[hp] at HC
    have HP:=qH hp
    clear hpn hp
    go_wp2_with fail
    refine HC.out.mono ?_
    rintro e w2 ⟨rfl,hb⟩
    go_wp2_with fail
    go_ret
    refine⟨up2 HB.out hb,.inr ⟨k,rfl,?_⟩⟩
    rw[List.findIdx?_eq_some_iff_getElem]
    refine⟨hlt,?_,fun j hj=>?_⟩
    ·have:=(List.getElem?_eq_some_iff.1 HX.out).2;rw[this];exact HP.out
    ·have:=HA.out j _ hj (List.getElem?_eq_getElem (by omega));simp[this]
   ·have hp:(pn == nm)=false:=by simpa using hpn
    rw[hp] at HC
    have HP:=qH hp
    clear hpn hp
    go_wp2_with fail
    refine HC.out.mono ?_
    rintro e w2 ⟨rfl,hb⟩
    go_wp2_with fail
    go_roundw
    case rel=>
     refine⟨k+1,by omega,by go_num,fun j x hj hx=>?_,up2 HB.out hb⟩
     rcases Nat.lt_or_ge j k with h1|h1
     ·exact HA.out j x h1 hx
     ·obtain rfl:j=k:=by omega
      rw[HX.out] at hx;cases hx;exact HP.out
    case measure=>simp[intOf];omega
  ·have d0:decide ((k:Int)<ps.length)=false:=decide_eq_false (by omega)
   have d00:((k:Int)<ps.length)=False:=eq_false (by omega)
   have d01:(k<ps.length)=False:=eq_false hlt
   clear hall hbel hqr
   go_wp2_with fail
   go_ret
   refine⟨HB.out,.inl ⟨rfl,?_⟩⟩
   rw[List.findIdx?_eq_none_iff]
   intro x hx
   obtain⟨j,hj⟩:=List.mem_iff_getElem?.1 hx
   exact HA.out j x (by have:=(List.getElem?_eq_some_iff.1 hj).1;omega) hj
def DelP (w:World) (B:Nat) (v:Value) (nm:Int) (ps:List PropE) (e:Ending) (w':World):Prop:=
 ∃ v',e=.returned v'/\ROwn encP 140 3 B w' v' (withoutP nm ps)/\Only (fun k=>v.ownBlock=some k) w w'/\(v'.ownBlock=v.ownBlock)
theorem filter_idx_none {nm:Int} (h:ps.findIdx? (fun y=>y.name == nm)=none):withoutP nm ps=ps:=by
 unfold withoutP
 rw[List.filter_eq_self]
 rw[List.findIdx?_eq_none_iff] at h
 intro y hy;simpa using h y hy
theorem filter_idx_some {nm:Int} {k:Nat} (h:ps.findIdx? (fun y=>y.name == nm)=some k):(ps.take (k+1)).filter (fun y=>!(y.name == nm))=ps.take k:=by
 obtain⟨hk,hp,hno⟩:=List.findIdx?_eq_some_iff_getElem.1 h
 rw[List.take_succ_eq_append_getElem hk,List.filter_append]
 have h1:(ps.take k).filter (fun y=>!(y.name == nm))=ps.take k:=by
  rw[List.filter_eq_self]
  intro y hy
  obtain⟨j,hj,he⟩:=List.getElem_of_mem hy
  simp only[List.length_take] at hj
  have:=hno j (by omega)
  simp at he
  rw[<-he];simpa using this
 rw[h1];simp[hp]
set_option maxRecDepth 100000 in
set_option maxHeartbeats 4000000 in
theorem delFn {B:Nat} {v:Value} (h:ROwn encP 140 3 B w v ps) (q:Nat) (nm:Int) (hq:w.cell? ⟨q,0,none⟩=some (.int .i64 nm)) (hql:q<w.heap.size) (hqv:v.ownBlock≠some q) (hl:ps.length<=1000000) :
  Calls Tryz.prog 287 #[v,.func (.func 288) #[] #[.pointer (some ⟨q,0,none⟩)]] w (DelP w B v nm ps):=by
 have HV:=qH h
 obtain⟨Av,c,rfl,hc1,hc2,hR⟩:=h.shape eltP
 have HI:=qH (idxFn hR c q nm hq hql hl)
 have HQ:=qH (⟨hq,hql,hqv⟩:_/\_/\_)
 clear h hR hq hqv
 go_enter Tryz.func287,Tryz.ntmps287
 go_wp2_with fail
 refine HI.out.mono ?_
 rintro e w1 ⟨hb1,⟨rfl,hno⟩|⟨i0,rfl,hix⟩⟩
 ·have HB:=qH hb1
  have HN:=qH hno
  clear hb1 hno
  go_wp2_with fail
  go_ret
  exact⟨_,rfl,by rw[filter_idx_none HN.out];exact HV.out.up HB.out,Only.of_below HB.out,rfl⟩
 ·have hil:=(List.findIdx?_eq_some_iff_getElem.1 hix).1
  obtain⟨g,cap,e,hcl,hcm,hBg,hgl,_,_⟩:=(HV.out.up hb1).lies eltP (by omega)
  cases e
  have hq1:=(hb1.cell (p:=⟨q,0,none⟩) hql).trans HQ.out.1
  have hqg:q≠g:=fun e=>HQ.out.2.2 (by rw[e];rfl)
  have HV1:=qH (HV.out.up hb1)
  have HB:=qH hb1
  have HX:=qH hix
  have HF:=qH (filter_idx_some hix)
  have HQ1:=qH (⟨hq1,hqg,hb1.size⟩:_/\_/\_)
  have hne:((i0:Int) == -1)=false:=beq_eq_false_iff_ne.2 (by omega)
  unfold maxLen at hc2 hcm
  clear hb1 hix hq1
  go_wp2_with fail
  clear hne
  go_loopw [5,6] (fun vi vj wr=>∃(i k:Nat) (M:List PropE),i<k/\k<=ps.length/\vi=.int .i64 i/\vj=.int .i64 k/\M.length=ps.length/\M.take i=(ps.take k).filter (fun y=>!(y.name == nm))/\M.drop k=ps.drop k/\ROwn encP 140 3 B wr (.slice (some ⟨g,0,none⟩) ps.length c) M/\Only (fun k=>k=g) w1 wr) (fun _ vj _=>ps.length -(intOf vj).toNat)
  case atStart=>exact⟨i0,i0+1,ps,by omega,by omega,rfl,by go_num,rfl,HF.out.symm,rfl,HV1.out,Only.refl _ _⟩
  case round=>
   obtain⟨i,k,M,hik,hk,rfl,rfl,hM,htk,hdr,hown,hon⟩:=hrel
   have HTK:=qH htk
   have HDR:=qH hdr
   have HMM:=qH hM
   have HO:=qH hown
   have HN:=qH hon
   have hzr:=hon.size
   have hqr:=(World.cell?_of_block (w:=w1) (a:=⟨q,0,none⟩) (hon.block q (by have:=HQ1.out.2.2;omega) hqg)).trans HQ1.out.1
   clear htk hdr
   by_cases hlt:k<ps.length
   ·obtain⟨⟨pn,pk,pv⟩,hx⟩:∃ x,ps[k]?=some x:=⟨_,List.getElem?_eq_getElem hlt⟩
    have hex:=(List.getElem?_eq_some_iff.1 hx).2
    have hxM:M[k]?=some ⟨pn,pk,pv⟩:=by
     have:=congrArg (fun l=>l[0]?) HDR.out
     simp only[List.getElem?_drop,Nat.add_zero] at this
     rw[this];exact hx
    have hownM:ROwn encP 140 3 B wr (.slice (some ⟨g,0,none⟩) M.length c) M:=by rw[hM];exact hown
    obtain⟨g',cap',e,_,_,_,hgr,hfz,hcs⟩:=hownM.lies eltP (by omega)
    cases e
    have e0:=hcs k _ 0 _ hxM rfl
    have e1:=hcs k _ 1 _ hxM rfl
    have e2:=hcs k _ 2 _ hxM rfl
    simp only[Nat.add_zero] at e0
    have hgne:¬ wr.heap.size=g:=by omega
    have htk1:ps.take k++[⟨pn,pk,pv⟩]=ps.take (k+1):=by rw[List.take_succ_eq_append_getElem hlt,hex]
    have hdr1:M.drop (k+1)=ps.drop (k+1):=by
     have:=congrArg (List.drop 1) HDR.out
     rw[List.drop_drop,List.drop_drop] at this
     exact this
    have hb6:=below1 wr (.cells #[.int .i64 pn,.int .i64 pk,.int .i64 pv] 140)
    have hk6:=Blk.made wr 140 #[.int .i64 pn,.int .i64 pk,.int .i64 pv]
    have k0:=hk6.cell (j:=0) rfl
    have k1:=hk6.cell (j:=1) rfl
    have k2:=hk6.cell (j:=2) rfl
    have hz6:(wr.alloc (.cells #[.int .i64 pn,.int .i64 pk,.int .i64 pv] 140)).heap.size=wr.heap.size+1:=by simp
    have hq6:=(hb6.cell (p:=⟨q,0,none⟩) (by have:=HQ1.out.2.2;show q<_;omega)).trans hqr
    have HC:=qH (withoutC ⟨pn,pk,pv⟩ q nm hq6 (by have:=HQ1.out.2.2;omega))
    dsimp only at HC
    have lt1:(k:Int)<ps.length:=by omega
    have d0:decide ((k:Int)<ps.length)=true:=decide_eq_true lt1
    have d01:(k<ps.length)=True:=eq_true hlt
    have HB6:=qH (⟨hb6,hk6,hz6⟩:_/\_/\_)
    have HT1:=qH htk1
    have HD1:=qH hdr1
    clear hx hex hxM hownM hcs htk1 hdr1 hb6 hk6 hz6 hq6 hqr hown hon
    by_cases hpn:pn=nm
    ·have hp:(pn == nm)=true:=by simpa using hpn
     rw[hp] at HC
     have HP:=qH hp
     clear hpn hp hfz
     go_wp2_with fail
     refine HC.out.mono ?_
     rintro e w2 ⟨rfl,hb2⟩
     go_wp2_with fail
     go_roundw
     case rel=>
      have hb:=HB6.out.1.trans (hb2.mono (by have:=HB6.out.2.2;omega))
      exact⟨i,k+1,M,by omega,by omega,rfl,by go_num,HMM.out,by rw[HTK.out,<-HT1.out,List.filter_append];simp[HP.out],HD1.out,HO.out.up hb,HN.out.trans (Only.of_below hb)⟩
     case measure=>simp[intOf];omega
    ·have hp:(pn == nm)=false:=by simpa using hpn
     rw[hp] at HC
     have HP:=qH hp
     clear hpn hp
     go_wp2_with fail
     refine HC.out.mono ?_
     rintro e w2 ⟨rfl,hb2⟩
     have hb:=HB6.out.1.trans (hb2.mono (by have:=HB6.out.2.2;omega))
     have hk2:=HB6.out.2.1.up hb2
     have k0:=hk2.cell (j:=0) rfl
     have k1:=hk2.cell (j:=1) rfl
     have k2:=hk2.cell (j:=2) rfl
     have ho2:ROwn encP 140 3 B w2 (.slice (some ⟨g,0,none⟩) M.length c) M:=by rw[hM];exact HO.out.up hb
     obtain⟨⟨a0,a1,a2⟩,hiM⟩:∃ y,M[i]?=some y:=⟨_,List.getElem?_eq_getElem (by omega)⟩
     obtain⟨g',cap',e,_,_,_,_,hf2,hc2'⟩:=ho2.lies eltP (by omega)
     cases e
     have z0:=hf2 (i*3) (by omega)
     have z1:=hf2 (i*3+1) (by omega)
     have z2:=hf2 (i*3+2) (by omega)
     have q0:=hc2' i _ 0 _ hiM rfl
     have q1:=hc2' i _ 1 _ hiM rfl
     have q2:=hc2' i _ 2 _ hiM rfl
     simp only[Nat.add_zero] at q0
     have p1:=ho2.put eltP hiM (j:=0) (y:=⟨pn,a1,a2⟩) (u:=.int .i64 pn) (by omega) rfl
     have p2:=ROwn.put eltP (xs:=M.set i ⟨pn,a1,a2⟩) (by rw[List.length_set];exact p1) (List.getElem?_set_self (by omega)) (j:=1) (y:=⟨pn,pk,a2⟩) (u:=.int .i64 pk) (by omega) rfl
     have p3:=ROwn.put eltP (xs:=(M.set i ⟨pn,a1,a2⟩).set i ⟨pn,pk,a2⟩) (by rw[List.length_set];exact p2) (List.getElem?_set_self (by rw[List.length_set];omega)) (j:=2) (y:=⟨pn,pk,pv⟩) (u:=.int .i64 pv) (by omega) rfl
     simp only[List.set_set,List.length_set,Nat.add_zero,hM] at p3
     have P3:=qH p3
     have li:(i:Int)<ps.length:=by omega
     have HH:=qH (⟨hb,hiM⟩:_/\_)
     clear hk2 ho2 hiM hf2 hc2' p1 p2 p3 hb2 hb hfz
     go_wp2_with fail
     go_roundw
     case rel=>
      refine⟨i+1,k+1,M.set i ⟨pn,pk,pv⟩,by omega,by omega,by go_num,by go_num,by rw[List.length_set];exact HMM.out,?_,?_,P3.out,?_⟩
      ·rw[<-HT1.out,List.filter_append,<-HTK.out]
       have hiM2:i<M.length:=by have:=HMM.out;omega
       rw[List.take_succ_eq_append_getElem (by rw[List.length_set];exact hiM2),List.take_set_of_le (Nat.le_refl _)]
       simp[HP.out]
      ·rw[List.drop_set_of_lt (by omega)];exact HD1.out
      ·exact(((HN.out.trans (Only.of_below HH.out.1)).setCell (p:=⟨g,i*3,none⟩) rfl _).setCell (p:=⟨g,i*3+1,none⟩) rfl _).setCell (p:=⟨g,i*3+2,none⟩) rfl _
     case measure=>simp[intOf];omega
   ·obtain rfl:k=ps.length:=by omega
    have hMl:=HMM.out
    have h1:ROwn encP 140 3 B wr (.slice (some ⟨g,0,none⟩) M.length c) M:=by rw[hMl];exact HO.out
    obtain⟨w3,hrun,ho3,hon3⟩:=clear_own eltP zeroPr (fun u hu=>by simp[Value.cells] at hu;rcases hu with rfl|rfl|rfl<;>rfl) h1 (i:=i) (by omega) (c - i)
    rw[hMl] at hrun
    have HO3:=qH (⟨ho3,hon3⟩:_/\_)
    have d0:decide (((ps.length:Nat):Int)<ps.length)=false:=by simp
    have hci:(c == i)=false:=by simp;omega
    have hci':¬ c=i:=by omega
    have hci2:(i:Int)<=c:=by omega
    have hci3:(i:Int)<=ps.length:=by omega
    clear ho3 hon3 h1 hMl hM hown hlt hon hqr
    go_wp2_with fail
    go_ret
    refine⟨_,rfl,?_,?_,rfl⟩
    ·have h2:=HO3.out.1
     rw[HTK.out,List.take_of_length_le (Nat.le_refl _)] at h2
     exact h2
    ·exact((Only.of_below HB.out).trans (HN.out.mono (fun k e=>by subst e;rfl))).trans (HO3.out.2.mono (fun k e=>by subst e;rfl))
end
end Go.Proofs.YtkpoodjhjfmfjaaGreatDoor
namespace Go.Proofs.YtkpoodjhjfmfjaaGreatDoor
open Go.RowKit
open Ovs (PropE encP eltP SortedP)
section
variable {w w' : World} {A : Option Addr} {ps : List PropE}
set_option maxRecDepth 100000 in
set_option maxHeartbeats 1000000 in
theorem pwithout (h:RSl encP w A ps) (c:Nat) (nm:Int) (hl:ps.length<=1000000):Calls Tryz.prog 255 #[.slice A ps.length c,.int .i64 nm] w (LiPost w (withoutP nm ps)):=by
 have hb:=below1 w (.cells #[.int .i64 nm] 3)
 have hk:=Blk.made w 3 #[.int .i64 nm]
 have HC:=qH (Ovs.cloneP (h.up hb) c hl)
 have HK:=qH (⟨hb,hk⟩:_/\_)
 have hz:(w.alloc (.cells #[.int .i64 nm] 3)).heap.size=w.heap.size+1:=by simp
 have HZ:=qH hz
 clear h hb hk hz
 go_enter Tryz.func255,Tryz.ntmps255
 go_wp2_with fail
 generalize w.alloc (.cells #[.int .i64 nm] 3)=W at *
 refine HC.out.mono ?_
 rintro e w1 ⟨v1,rfl,hown,hb1⟩
 have hk1:=HK.out.2.up hb1
 have hd:=delFn hown w.heap.size nm (hk1.cell (j:=0) rfl) hk1.lt (fun e=>by have:=hown.base e;have:=HZ.out;omega) hl
 have HD:=qH hd
 have HX:=qH (⟨hb1,hown⟩:_/\_)
 obtain⟨A1,c1,rfl,_,_,_⟩:=hown.shape eltP
 clear hk1 hd hb1 hown
 go_wp2_with fail
 refine HD.out.mono ?_
 rintro e w2 ⟨v2,rfl,hown2,hon,_⟩
 have hw:=HX.out
 have hb2:Below w.heap.size w w2:=(HK.out.1.trans (hw.1.mono HK.out.1.size)).trans ⟨hon.os,hon.tape,hon.output,hon.size,fun i hi=>hon.block i (by have:=HZ.out;have:=hw.1.size;omega) (fun e=>by have:=hw.2.base e;have:=HZ.out;omega)⟩
 obtain⟨A2,c2,hv2,_,_,_⟩:=hown2.shape eltP
 have HO:=qH (⟨hown2,hb2⟩:_/\_)
 clear hown2 hon hb2 hw
 subst hv2
 go_wp2_with fail
 go_ret
 exact LiPost.own HO.out.1 (by have:=HZ.out;omega) HO.out.2
def PFun (w:World) (F:FuncId) (caps:Array Value) (g:List PropE->List PropE):Prop:=
 ∀(w1:World),Below w.heap.size w w1->∀(A:Option Addr) (c:Nat) (ps:List PropE),RSl encP w1 A ps->ps.length<=64->ps.length<=c->Calls Tryz.prog F (#[.slice A ps.length c]++caps) w1 (LiPost w1 (g ps))
theorem PFun.up {F:FuncId} {caps:Array Value} {g:List PropE->List PropE} (h:PFun w F caps g) (hb:Below w.heap.size w w'):PFun w' F caps g:=fun w1 hb1=>h w1 (up2 hb hb1)
set_option maxRecDepth 100000 in
set_option maxHeartbeats 1000000 in
theorem putC (q1 q2:Nat) (x:PropE) (h1:Blk w q1 3 #[.int .i64 x.name]) (h2:Blk w q2 31 #[.int .i64 x.kind,.int .i64 x.n]):PFun w 192 #[.pointer (some ⟨q1,0,none⟩),.pointer (some ⟨q2,0,none⟩)] (withP x):=by
 intro w1 hb A c ps hr hl hc
 obtain⟨xn,xk,xv⟩:=x
 have c0:=(h1.up hb).cell (j:=0) rfl
 have d0:=(h2.up hb).cell (j:=0) rfl
 have d1:=(h2.up hb).cell (j:=1) rfl
 have HW:=qH (pwith ⟨xn,xk,xv⟩ hr c (by omega) hc)
 dsimp only at HW
 clear h1 h2 hr hb
 go_enter Tryz.func192,Tryz.ntmps192
 go_wp2_with fail
 refine HW.out.mono ?_
 rintro e w2 ⟨A2,c2,rfl,h⟩
 have HH:=qH h
 clear h
 go_wp2_with fail
 go_ret
 exact⟨A2,c2,rfl,HH.out⟩
set_option maxRecDepth 100000 in
set_option maxHeartbeats 1000000 in
theorem takeC (q1:Nat) (nm:Int) (h1:Blk w q1 3 #[.int .i64 nm]):PFun w 254 #[.pointer (some ⟨q1,0,none⟩)] (withoutP nm):=by
 intro w1 hb A c ps hr hl hc
 have c0:=(h1.up hb).cell (j:=0) rfl
 have HW:=qH (pwithout hr c nm (by omega))
 clear h1 hr hb
 go_enter Tryz.func254,Tryz.ntmps254
 go_wp2_with fail
 refine HW.out.mono ?_
 rintro e w2 ⟨A2,c2,rfl,h⟩
 have HH:=qH h
 clear h
 go_wp2_with fail
 go_ret
 exact⟨A2,c2,rfl,HH.out⟩
end
end Go.Proofs.YtkpoodjhjfmfjaaGreatDoor
namespace Go.Proofs.YtkpoodjhjfmfjaaGreatDoor
open Go.RowKit
open Ovs (PropE encP eltP SortedP)
structure OutOk (w:World) (B:Nat) (v:Value) (L:List PcE) (R:Nat->Prop):Prop where
 own:ROwn encPc 190 3 B w v L
 lst:∀ x ∈ L,(RSl encP w x.A x.ps/\x.ps.length<=65/\x.ps.length<=x.c)/\(0<x.ps.length->∀ g o,x.A=some ⟨g,o,none⟩->(R g\/B<=g)/\v.ownBlock≠some g)
section
variable {w w' : World} {B N0 : Nat} {v : Value} {L : List PcE} {R Z : Nat → Prop} {A : Option Addr} {c : Nat} {ps : List PropE} {f t : Int} {e : Ending}
theorem OutOk.nil (w:World) (B:Nat) (R:Nat->Prop):OutOk w B (.slice none 0 0) [] R:=⟨ROwn.nil _ _,by simp⟩
theorem OutOk.up (h:OutOk w B v L R) (hb:Below w.heap.size w w'):OutOk w' B v L R:=⟨h.own.up hb,fun x hx=>⟨⟨(h.lst x hx).1.1.up hb,(h.lst x hx).1.2⟩,(h.lst x hx).2⟩⟩
theorem OutOk.only (h:OutOk w B v L R) (ho:Only Z w w') (hv:∀ k,v.ownBlock=some k->¬ Z k) (hR:∀ k,R k\/B<=k->k<w.heap.size->¬ Z k):OutOk w' B v L R:=
 ⟨h.own.kept fun g hg=>ho.block g (h.own.lt hg) (hv g hg),fun x hx=>⟨⟨(h.lst x hx).1.1.keptP (fun hp g o e=>ho.block g ((h.lst x hx).1.1.lt hp e) (hR g ((h.lst x hx).2 hp g o e).1 ((h.lst x hx).1.1.lt hp e))) ho.size,(h.lst x hx).1.2⟩,(h.lst x hx).2⟩⟩
theorem OutOk.add (h:OutOk w B v L R) (hRB:∀ g,R g->g<B) (hB:B<=w.heap.size) (ha:RSl encP w A ps) (hb:0<ps.length->∀ g o,A=some ⟨g,o,none⟩->(R g\/B<=g)/\v.ownBlock≠some g) (hl:ps.length<=65) (hc:ps.length<=c) (hp:AddPost w B v L f t A c ps e w') :
  ∃ v' L',e=.returned v'/\OutOk w' B v' L' R/\L'.map PcE.dat=addP (L.map PcE.dat) f t ps/\Only (fun k=>v.ownBlock=some k) w w'/\∀ k,v'.ownBlock=some k->v.ownBlock=some k\/w.heap.size<=k:=by
 obtain⟨v',L',rfl,h1,h2,h3,h4,h5⟩:=hp
 have key:∀(A':Option Addr) (c':Nat) (ps':List PropE),ps'.length<=c'->RSl encP w A' ps'->(0<ps'.length->∀ g o,A'=some ⟨g,o,none⟩->(R g\/B<=g)/\v.ownBlock≠some g)->ps'.length<=65->(RSl encP w' A' ps'/\ps'.length<=65/\ps'.length<=c')/\(0<ps'.length->∀ g o,A'=some ⟨g,o,none⟩->(R g\/B<=g)/\v'.ownBlock≠some g):=fun A' c' ps' hc hr hk hl=>by
  refine⟨⟨hr.keptP (fun hp g o e=>h3.block g (hr.lt hp e) (hk hp g o e).2) h3.size,hl,hc⟩,fun hp g o e=>⟨(hk hp g o e).1,fun e2=>?_⟩⟩
  have hgl:=hr.lt hp e
  rcases h4 with h4|⟨g2,h4,h6⟩
  ·rw[h4] at e2;exact(hk hp g o e).2 e2
  ·rw[h4] at e2;cases e2;omega
 refine⟨v',L',rfl,⟨h1,fun x hx=>?_⟩,h2,h3,fun k hk=>by
  rcases h4 with h4|⟨g2,h4,h6⟩
  ·exact .inl (h4▸hk)
  ·rw[h4] at hk;cases hk;exact .inr h6⟩
 rcases h5 x hx with ⟨y,hy,e1,e3,e2⟩|⟨e1,e3,e2⟩
 ·rw[e1,e2,e3];exact key y.A y.c y.ps (h.lst y hy).1.2.2 (h.lst y hy).1.1 (h.lst y hy).2 (h.lst y hy).1.2.1
 ·rw[e1,e2,e3];exact key A c ps hc ha hb hl
structure ChgB (w:World) (N0:Nat) (F:FuncId) (caps:Array Value) (v:Value) (L:List PcE) (a:Int) (R:Nat->Prop):Prop where
 kf:Blk w N0 195 #[.func (.func F) #[] caps]
 ko:Blk w (N0+1) 187 #[v]
 ka:Blk w (N0+2) 3 #[.int .i64 a]
 out:OutOk w (N0+3) v L R
 sz:N0+3<=w.heap.size
theorem ChgB.up {F:FuncId} {caps:Array Value} {a:Int} (h:ChgB w N0 F caps v L a R) (hb:Below w.heap.size w w'):ChgB w' N0 F caps v L a R:=⟨h.kf.up hb,h.ko.up hb,h.ka.up hb,h.out.up hb,Nat.le_trans h.sz hb.size⟩
theorem ChgB.put {F:FuncId} {caps:Array Value} {a:Int} {v':Value} {L':List PcE} (h:ChgB w N0 F caps v L a R) (ho:Only (fun k=>v.ownBlock=some k) w w') (h':OutOk w' (N0+3) v' L' R) (hR:∀ g,R g->g<N0):ChgB (w'.setCell ⟨N0+1,0,none⟩ v') N0 F caps v' L' a R:=by
 have hb:∀ k,k<N0+3->¬(v.ownBlock=some k):=fun k hk e=>by have:=h.out.own.base e;omega
 have hs:Only (fun k=>k=N0+1) w' (w'.setCell ⟨N0+1,0,none⟩ v'):=(Only.refl (fun k=>k=N0+1) w').setCell (p:=⟨N0+1,0,none⟩) rfl _
 refine⟨(h.kf.only ho (hb _ (by omega))).only hs (by omega),(h.ko.only ho (hb _ (by omega))).set (j:=0) (by simp) v',(h.ka.only ho (hb _ (by omega))).only hs (by omega),h'.only hs (fun k hk e=>by have:=h'.own.base hk;omega) (fun k hk hl e=>by rcases hk with hk|hk;have:=hR k hk;omega;omega),Nat.le_trans h.sz (Nat.le_trans ho.size hs.size)⟩
theorem ChgB.pos {F:FuncId} {caps:Array Value} {a a':Int} (h:ChgB w N0 F caps v L a R) (hR:∀ g,R g->g<N0):ChgB (w.setCell ⟨N0+2,0,none⟩ (.int .i64 a')) N0 F caps v L a' R:=by
 have hs:Only (fun k=>k=N0+2) w (w.setCell ⟨N0+2,0,none⟩ (.int .i64 a')):=(Only.refl (fun k=>k=N0+2) w).setCell (p:=⟨N0+2,0,none⟩) rfl _
 exact⟨h.kf.only hs (by omega),h.ko.only hs (by omega),h.ka.set (j:=0) (by simp) _,h.out.only hs (fun k hk e=>by have:=h.out.own.base hk;omega) (fun k hk hl e=>by rcases hk with hk|hk;have:=hR k hk;omega;omega),Nat.le_trans h.sz hs.size⟩
def ChgP (w:World) (N0:Nat) (F:FuncId) (caps:Array Value) (v:Value) (s:List Pc × Int) (R:Nat->Prop) (w':World):Prop:=
 ∃ v' L',ChgB w' N0 F caps v' L' s.2 R/\L'.map PcE.dat=s.1/\Only (fun k=>k=N0+1\/k=N0+2\/v.ownBlock=some k) w w'/\∀ k,v'.ownBlock=some k->v.ownBlock=some k\/w.heap.size<=k
set_option maxRecDepth 100000 in
set_option maxHeartbeats 4000000 in
theorem pfill {w0:World} {F:FuncId} {caps:Array Value} {a:Int} {g:List PropE->List PropE} (hF:PFun w0 F caps g) (hFE:Ovs.Enters F) (hN:N0=w0.heap.size) (h0:Below N0 w0 w) (h:ChgB w N0 F caps v L a R) (hR:∀ g,R g->g<N0) (hg0:(g []).length<=65) (hl:L.length<=900000) (z:Int) :
  Calls Tryz.prog 285 #[.int .i64 z,.pointer (some ⟨N0+2,0,none⟩),.pointer (some ⟨N0+1,0,none⟩),.pointer (some ⟨N0,0,none⟩)] w fun e w'=>e=.returned (.tuple #[])/\ChgP w N0 F caps v (fillP g (L.map PcE.dat,a) z) R w':=by
 have c0:=h.kf.cell (j:=0) rfl
 have c1:=h.ko.cell (j:=0) rfl
 have c2:=h.ka.cell (j:=0) rfl
 unfold fillP
 dsimp only
 by_cases hlt:a<z
 ·have d0:decide (a<z)=true:=decide_eq_true hlt
  have p0:(a<z)=True:=eq_true hlt
  rw[if_pos hlt]
  obtain⟨Av,cv,rfl,_,_,_⟩:=h.out.own.shape eltPc
  have hin:∀(args:Array Value) (w:World),(callFunc F args).run Tryz.prog w=.ok (.enter F args) w:=hFE
  have H:=qH h
  have HF:=qH (⟨hF,hN,h0,hR,hg0,hl⟩:_/\_/\_/\_/\_/\_)
  have hT:∀ k,k<N0+3->¬((Value.slice Av L.length cv).ownBlock=some k\/w.heap.size<=k):=fun k hk e=>e.elim (fun e=>by have:=h.out.own.base e;omega) (fun e=>by have:=h.sz;omega)
  have HT:=qH hT
  have X0:∀ x:OnW (fun k=>(Value.slice Av L.length cv).ownBlock=some k\/w.heap.size<=k) w,x.w.cell? ⟨N0,0,none⟩=some (.func (.func F) #[] caps):=fun x=>(h.kf.only x.on (hT _ (by omega))).cell (j:=0) rfl
  have X1:∀ x:OnW (fun k=>(Value.slice Av L.length cv).ownBlock=some k\/w.heap.size<=k) w,x.w.cell? ⟨N0+1,0,none⟩=some (.slice Av L.length cv):=fun x=>(h.ko.only x.on (hT _ (by omega))).cell (j:=0) rfl
  have X2:∀ x:OnW (fun k=>(Value.slice Av L.length cv).ownBlock=some k\/w.heap.size<=k) w,x.w.cell? ⟨N0+2,0,none⟩=some (.int .i64 a):=fun x=>(h.ka.only x.on (hT _ (by omega))).cell (j:=0) rfl
  clear h hF h0 hN hR hT hFE hg0 hl
  go_enter Tryz.func285,Tryz.ntmps285
  go_wp2_with fail
  refine wp_region_mixO (fun k=>(Value.slice Av L.length cv).ownBlock=some k\/w.heap.size<=k) 6 (.one [0,1,2,3] 4 (.one [] 5 (.done []))) (by kernel_rfl) (fun c d v a w h=>by cases d<;>exact h) (by kernel_rfl) ?_
  simp only[wpMixT,pk_nil,pk_cons,pushAt_zero,pushAt_succ,List.drop_succ_cons,List.drop_zero]
  repeat (go_big_quiet_step (fail))
  refine wpQuiet_nil ?_
  clear X0 X1 X2
  go_wp2_with fail
  have hbd:Below w.heap.size w w.drew:=(Below.refl _ w).drew
  have hf:=HF.out.1 w.drew (by have:=HF.out.2.1;rw[<-this];exact HF.out.2.2.1.trans (hbd.mono (by have:=H.out.sz;omega))) none 0 [] (RSl.nil _ _) (by simp) (by simp)
  refine Calls.mono (by simpa using hf) ?_
  rintro r w1 ⟨A1,cc,rfl,hrs,hge,hb1⟩
  have hb1':Below w.heap.size w w1:=hbd.trans hb1
  have HB1:=qH hb1'
  have HL1:=qH (⟨hrs.1,hge,hrs.2⟩:_/\_/\_)
  have on1:Only (fun k=>(Value.slice Av L.length cv).ownBlock=some k\/w.heap.size<=k) w w1:=Only.of_below hb1'
  have h1:=H.out.up hb1'
  have hA:=padd h1.out.own h1.sz (by have:=HF.out.2.2.2.2.2;omega) (fun x hx=>⟨(h1.out.lst x hx).1.1,by have:=(h1.out.lst x hx).1.2.1;omega⟩) hrs.1 (by have:=HF.out.2.2.2.2.1;omega) cc a z
  have HA:=qH hA
  clear hrs hge hb1 hb1' h1 hA hf hbd
  go_wp2_with fail
  refine thenQ_normal ⟨⟨⟨_,on1⟩,rfl⟩,?_⟩
  refine wpQuiet_nil ?_
  go_wp2_with fail
  refine HA.out.mono ?_
  rintro r w2 hp
  have h1:=H.out.up HB1.out
  obtain⟨v2,L2,rfl,hout,hdat,ho2,hnv2⟩:=h1.out.add (fun g hg=>by have:=HF.out.2.2.2.1 g hg;omega) h1.sz HL1.out.1 (fun hp g o e=>⟨.inr (by have:=HL1.out.2.1 g o e;have:=H.out.sz;show N0+3<=g;have:w.drew.heap.size=w.heap.size:=rfl;omega),fun e2=>by have:=HL1.out.2.1 g o e;have:=H.out.out.own.lt e2;have:w.drew.heap.size=w.heap.size:=rfl;omega⟩) HF.out.2.2.2.2.1 HL1.out.2.2 hp
  obtain⟨A2,c2,rfl,_,_,_⟩:=hout.own.shape eltPc
  have on2:Only (fun k=>(Value.slice Av L.length cv).ownBlock=some k\/w.heap.size<=k) w w2:=(on1.trans (ho2.mono (fun k hk=>.inl hk)))
  have hk2:=h1.put ho2 hout HF.out.2.2.2.1
  have m1:=(h1.ko.only ho2 (fun e=>by have:=H.out.out.own.base e;omega)).fz 0
  have n1:=(h1.ko.only ho2 (fun e=>by have:=H.out.out.own.base e;omega)).cell (j:=0) rfl
  have m2:=hk2.ka.fz 0
  have n2:=hk2.ka.cell (j:=0) rfl
  have HK:=qH (⟨hk2,hdat,on1.trans (ho2.mono (fun k hk=>.inl hk)),hnv2⟩:_/\_/\_/\_)
  clear h1 hp hout hdat ho2 hk2 HA hnv2
  go_wp2_with fail
  refine thenQ_normal ⟨⟨⟨_,on2⟩,rfl⟩,?_⟩
  refine wpQuiet_nil ?_
  go_wp2_with fail
  go_end0
  refine⟨rfl,_,L2,HK.out.1.pos (a':=z) HF.out.2.2.2.1,HK.out.2.1,?_,fun k hk=>(HK.out.2.2.2 k hk).imp id (fun e=>Nat.le_trans HB1.out.size e)⟩
  have ho:Only (fun k=>k=N0+1\/k=N0+2\/(Value.slice Av L.length cv).ownBlock=some k) w w2:=⟨HK.out.2.2.1.os,HK.out.2.2.1.tape,HK.out.2.2.1.output,HK.out.2.2.1.size,fun i hi hs=>HK.out.2.2.1.block i hi (fun e=>e.elim (fun e=>hs (.inr (.inr e))) (fun e=>by omega))⟩
  exact(ho.setCell (p:=⟨N0+1,0,none⟩) (.inl rfl) _).setCell (p:=⟨N0+2,0,none⟩) (.inr (.inl rfl)) _
 ·have d0:decide (a<z)=false:=decide_eq_false hlt
  have p0:(a<z)=False:=eq_false hlt
  rw[if_neg hlt]
  have H:=qH h
  clear h hF h0 hN hR
  go_enter Tryz.func285,Tryz.ntmps285
  go_wp2_with fail
  go_end0
  exact⟨rfl,v,L,H.out,rfl,Only.refl _ _,fun k hk=>.inl hk⟩
end
end Go.Proofs.YtkpoodjhjfmfjaaGreatDoor
