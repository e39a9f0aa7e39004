/- A part. -/
import Derived.Test.YtkpoodjhjfmfjaaGreatDoorZ14
import Derived.Test.YtkpoodjhjfmfjaaGreatDoorZ07
import Derived.Test.YtkpoodjhjfmfjaaGreatDoorZ00
set_option linter.unusedVariables false
set_option linter.unusedSimpArgs false
namespace Go.Proofs.YtkpoodjhjfmfjaaGreatDoor
open Go.RowKit Go.Lib
open Ovs (PropE encP eltP)
theorem nextP_gt {same:List PropE->List PropE->Bool} {P:List Pc} {a most:Int} (h:a<most):a<nextP same P a most/\nextP same P a most<=most:=by
 unfold nextP
 split
 ·rename_i c hc
  have:=List.find?_some hc
  simp only[Bool.and_eq_true,decide_eq_true_eq] at this
  omega
 ·exact⟨h,Int.le_refl _⟩
theorem checkP_may0 {f t nm:Int} (h:checkP f t nm=0):1<=f/\f<=t/\t<=65537/\0<=nm:=by
 unfold checkP mayP at h
 split at h
 ·omega
 ·rename_i h1
  simp only[Bool.not_eq_false,Bool.and_eq_true,decide_eq_true_eq] at h1
  split at h<;>omega
theorem setE_may {P:List Pc} {f t nm:Int} {want:Option (Int × Int)} (h:setE P f t nm want=0):1<=f/\f<=t/\t<=65537/\0<=nm:=by
 unfold setE at h
 cases want with
 | none=>exact checkP_may0 h
 | some v=>
   unfold putE at h
   simp only at h
   split at h
   ·rename_i h1;omega
   ·rename_i h1;exact checkP_may0 (by simpa using h1)
theorem NmOk.setP {P:List Pc} (h:NmOk P) (f t nm:Int) (want:Option (Int × Int)):NmOk (setP P f t nm want):=by
 unfold Go.Proofs.YtkpoodjhjfmfjaaGreatDoor.setP
 cases want with
 | none=>exact h.take f t nm
 | some v=>exact h.put f t _
def wantOf (has:Bool) (vk vn:Int):Option (Int × Int):=if has=true then some (vk,vn) else none
section
variable {w w' w1 : World} {N b n : Nat} {F R : Nat → Prop} {a : Adr} {s s' : St} {c : Chg}
theorem GBa.exact (h:GBa N w b F R a s):∃ F' R',(∀ k,F' k->F k)/\(∀ k,R' k->R k)/\(∀ k,F' k->¬ R' k)/\(∀ k,F' k->k<w.heap.size)/\(∀ k,R' k->k<w.heap.size)/\GBa N w b F' R' a s:=by
 obtain⟨col,o,k⟩:=h
 have h1:GBa N w b (fun k=>1<=col k/\col k<=7) (fun k=>col k=8) a s:=⟨col,⟨o.tb,o.rl,fun k hk=>o.hN k (o.inF k hk.1 hk.2),o.sz,fun k g1 g2=>⟨g1,g2⟩,fun k g=>g⟩,k⟩
 exact⟨_,_,fun k hk=>o.inF k hk.1.1 hk.1.2,fun k hk=>o.inR k hk.1,fun k hk hr=>by have:=hk.1;have:=hr.1;omega,fun k hk=>hk.2,fun k hk=>hk.2,h1.bound⟩
theorem GBa.pcopy (h:GBa N w b F R a s):Calls Tryz.prog 115 #[pAt a.p] w fun e w'=>∃ b' v' L Q,e=.returned (pAt b')/\PrsAt w' b' v' L Q/\L.map PcE.dat=s.P/\(∀ g,Q g->R g/\g<w.heap.size)/\w.heap.size<=b'/\(∀ k,v'.ownBlock=some k->w.heap.size<=k)/\Below w.heap.size w w':=by
 obtain⟨col,o,k⟩:=h
 obtain⟨v,L,Q,h1,h2,h3,h4,h5,h6⟩:=k.prs
 exact(Go.Proofs.YtkpoodjhjfmfjaaGreatDoor.pcopy h1 (fun g hg=>(h5 g hg).2)).mono fun e w' ⟨b',v',he,g1,g2,g3,g4⟩=>⟨b',v',L,Q,he,g1,h2,fun g hg=>⟨o.inR g (h5 g hg).1,(h5 g hg).2⟩,g3,g4,g2⟩
open Classical in
theorem GBa.swap {p:Nat} {v:Value} {L:List PcE} {Q:Nat->Prop} (h:GBa N w b F R a s) (hp:PrsAt w p v L Q) (hn:NmOk (L.map PcE.dat)) (hf:∀ k,(k=p\/v.ownBlock=some k\/Q k)->¬ F k) (hNp:N<=p) (hNv:∀ k,v.ownBlock=some k->N<=k) :
  GBa N (w.setCell ⟨b,11,none⟩ (pAt p)) b (fun k=>F k\/k=p\/v.ownBlock=some k) (fun k=>R k\/Q k) { a with p:=p } { s with P:=L.map PcE.dat }:=by
 have hb:=h.ib
 have hsz:(w.setCell ⟨b,11,none⟩ (pAt p)).heap.size=w.heap.size:=by simp[World.setCell]
 obtain⟨col,o,k⟩:=h
 have ho:Only (fun k=>k=b) w (w.setCell ⟨b,11,none⟩ (pAt p)):=(Only.refl (fun k=>k=b) w).setCell (p:=⟨b,11,none⟩) rfl _
 have hp1:=(hp.shrink).only ho (fun e=>hf p (.inl rfl) (e▸hb)) (fun k hk e=>hf k (.inr (.inl hk)) (e▸hb)) (fun k hk _ e=>hf k (.inr (.inr hk.1)) (e▸hb))
 have hfree:∀ i,1<=col i->col i<=7->¬(i=p\/v.ownBlock=some i)/\¬ Q i:=fun i h1 h2=>⟨fun e=>hf i (e.elim .inl (fun e=>.inr (.inl e))) (o.inF i h1 h2),fun e=>hf i (.inr (.inr e)) (o.inF i h1 h2)⟩
 obtain⟨col',hcol⟩:∃ c:Nat->Nat,c=fun i=>if i=p\/v.ownBlock=some i then 4 else if Q i then 8 else if col i=4 then 4 else col i:=⟨_,rfl⟩
 have hsame:∀ i,1<=col i->col i<=7->col' i=col i:=fun i h1 h2=>by
  have:=hfree i h1 h2
  rw[hcol];simp only;rw[if_neg this.1,if_neg this.2];split<;>omega
 have hx:=k.buf.set (j:=11) (by simp) (pAt p)
 have hnb:∀ i,col i≠1->i≠b:=fun i hi e=>hi (e▸k.cb)
 refine⟨col',⟨o.tb.only ho (fun k hk=>hk▸o.hN b hb),o.rl.only ho (fun k hk=>hk▸o.hN b hb),fun k hk=>hk.elim (o.hN k) (fun e=>e.elim (fun e=>e▸hNp) (hNv k)),by rw[hsz];exact o.sz,fun i g1 g2=>?_,fun i g=>?_⟩,⟨hx,(hsame b (by rw[k.cb];omega) (by rw[k.cb];omega)).trans k.cb,?_,?_,?_,?_,?_,?_⟩⟩
 ·rw[hcol] at g1 g2;simp only at g1 g2
  by_cases e1:i=p\/v.ownBlock=some i
  ·exact .inr e1
  ·rw[if_neg e1] at g1 g2
   by_cases e2:Q i
   ·rw[if_pos e2] at g2;omega
   ·rw[if_neg e2] at g1 g2
    refine .inl (o.inF i ?_ ?_)<;>split at g1<;>simp_all<;>omega
 ·rw[hcol] at g;simp only at g
  by_cases e1:i=p\/v.ownBlock=some i
  ·rw[if_pos e1] at g;omega
  ·rw[if_neg e1] at g
   by_cases e2:Q i
   ·exact .inr e2
   ·rw[if_neg e2] at g
    refine .inl (o.inR i ?_)
    split at g<;>omega
 ·exact k.gap.turn ho (fun i hi _=>hnb i (by omega)) (fun i hi _=>(hsame i (by omega) (by omega)).trans hi)
 ·exact k.mks.only ho (fun i hi _=>hnb i (by omega)) (fun i hi _=>(hsame i (by omega) (by omega)).trans hi)
 ·refine⟨v,L,_,hp1,rfl,?_,fun i hi=>?_,fun g hg=>⟨?_,by rw[hsz];exact hg.2⟩,hn⟩
  ·rw[hcol];simp
  ·rw[hcol];simp only;rw[if_pos (.inr hi)]
  ·have h1:¬(g=p\/v.ownBlock=some g):=fun e=>e.elim (fun e=>hp.nb (e▸hg.1)) (fun e=>hp.nv g e hg.1)
   rw[hcol];simp only;rw[if_neg h1,if_pos hg.1]
 ·exact k.ovs.only ho (fun i hi _=>hnb i (by omega)) (fun i hi _=>(hsame i (by omega) (by omega)).trans hi)
 ·exact k.log.turn ho (fun i hi _=>hnb i (by omega)) (fun i hi _=>(hsame i (by omega) (by omega)).trans hi)
 ·exact k.exc.only ho (fun i hi _=>hnb i (by omega)) (fun i hi _=>(hsame i (by omega) (by omega)).trans hi)
theorem segsP_step {P:List Pc} {nm t x:Int} {k:Nat} (h:x<t):segsP P nm t (k+1) x=(x,nextP (sameOf nm) P x t,getP P x nm) :: segsP P nm t k (nextP (sameOf nm) P x t):=by rw[segsP,if_pos h]
theorem segsP_end {P:List Pc} {nm t x:Int} (h:¬ x<t):∀ k,segsP P nm t k x=[]
 | 0=>rfl
 | k+1=>by rw[segsP,if_neg h]
def SegR (P:List Pc) (nm t:Int) (want:Option (Int × Int)) (S1:St) (CH:Bool) (x:Int) (st:St) (ch:Bool):Prop:=
 ∃ k:Nat,(t - x).toNat<=k/\(segsP P nm t k x).foldl (noteV nm want) st=S1/\(ch || !((segsP P nm t k x).all fun g=>decide (g.2.2=want)))=CH
theorem SegR.step {P:List Pc} {nm t:Int} {want:Option (Int × Int)} {S1:St} {CH:Bool} {x:Int} {st:St} {ch:Bool} (h:SegR P nm t want S1 CH x st ch) (hx:x<t) :
  SegR P nm t want S1 CH (nextP (sameOf nm) P x t) (noteV nm want st (x,nextP (sameOf nm) P x t,getP P x nm)) (ch || !decide (getP P x nm=want)):=by
 obtain⟨k,hk,h1,h2⟩:=h
 have hn:=nextP_gt (same:=sameOf nm) (P:=P) hx
 cases k with
 | zero=>omega
 | succ k=>
   rw[segsP_step hx] at h1 h2
   refine⟨k,by omega,h1,?_⟩
   rw[<-h2,List.all_cons]
   simp only[Bool.not_and,Bool.or_assoc]
theorem SegR.stop {P:List Pc} {nm t:Int} {want:Option (Int × Int)} {S1:St} {CH:Bool} {x:Int} {st:St} {ch:Bool} (h:SegR P nm t want S1 CH x st ch) (hx:¬ x<t):st=S1/\ch=CH:=by
 obtain⟨k,hk,h1,h2⟩:=h
 rw[segsP_end hx] at h1 h2
 exact⟨h1,by simpa using h2⟩
theorem neqWd (p q c d:Int) (w:World):(binOp .neq 31 (.agg #[.int .i64 p,.int .i64 q]) (.agg #[.int .i64 c,.int .i64 d])).run Tryz.prog w=.ok (.bool (!(p == c && q == d))) w:=by
 have u3:=Tryz.underlying3
 have hS:Tryz.prog.underlying 31=some (.struct (Tryz.prog.fieldsOf 31)):=by kernel_rfl
 have hp:Tryz.prog.stoodInHeld 31=false:=by kernel_rfl
 rw[run_neq_struct,show(10000:Nat)=9999+1 from rfl,run_equalIn_agg w 9999 31 _ _ hS hp]
 simp only[Program.fieldsOf,Tryz.underlying31]
 by_cases h1:p=c
 ·by_cases h2:q=d
  ·simp only[h1,h2];go_simp
  ·have d2:(q == d)=false:=by simpa using h2
   simp only[h1];go_simp
 ·have d1:(p == c)=false:=by simpa using h1
  go_simp
set_option maxRecDepth 100000 in
set_option maxHeartbeats 4000000 in
theorem set_ok (h:GBa N w b F R a s) (hB:Pos s 1000000000) (f t nm vk vn:Int) (has:Bool) :
  Calls Tryz.prog 118 #[pAt b,.int .i64 f,.int .i64 t,.int .i64 nm,.agg #[.int .i64 vk,.int .i64 vn],.bool has] w fun r w'=>r=.returned (.int .i64 (setE s.P f t nm (wantOf has vk vn)))/\To N w b F R (setS s f t nm (wantOf has vk vn)) w':=by
 obtain⟨F0,R0,hF0,hR0,hd,hFl,hRl,h0⟩:=h.exact
 have HF:=qH (⟨hF0,hR0,hd,hFl,hRl,h.hN,h.sz⟩:_/\_/\_/\_/\_/\_/\_)
 have H:=qH h0
 have HB:=qH hB
 obtain⟨want,hw⟩:∃ z,z=wantOf has vk vn:=⟨_,rfl⟩
 rw[<-hw]
 obtain⟨E,hE⟩:∃ z,z=setE s.P f t nm want:=⟨_,rfl⟩
 rw[<-hE]
 obtain⟨S2,hS2⟩:∃ z,z=setS s f t nm want:=⟨_,rfl⟩
 rw[<-hS2]
 have HS2:=qH hS2
 have HE:=qH hE
 have HW:=qH hw
 have q11:w.cell? ⟨b,11,none⟩=some (pAt a.p):=h0.cp
 have q11':=fun o=>cell_up q11 (below1 w o)
 have HC:=qH (fun o=>(h0.up (below1 w o)).pcopy)
 clear h hB hF0 hR0 hd hFl hRl h0 hS2 hE hw
 go_enter Tryz.func118,Tryz.ntmps118
 go_wp2_with fail
 refine(HC.out _).mono ?_
 rintro e w1 ⟨b1,v1,L,Q,rfl,hp,hL,hQ,hb1,hv1,hbw⟩
 have hbx:=below1 w (.cells #[.int .i64 vk,.int .i64 vn] 31)
 have hzx:(w.alloc (.cells #[.int .i64 vk,.int .i64 vn] 31)).heap.size=w.heap.size+1:=by simp
 have kb:=(Blk.made w 31 #[.int .i64 vk,.int .i64 vn]).up hbw
 have HP:=qH (⟨hp,hL,hQ,hb1,hv1,hbw,hbx,hzx,kb⟩:_/\_/\_/\_/\_/\_/\_/\_/\_)
 have t0:=kb.cell (j:=0) rfl
 have t1:=kb.cell (j:=1) rfl
 clear hp hL hQ hb1 hv1 hbw HC q11 q11' hbx hzx kb
 cases has with
 | true=>
   have hw:want=some (vk,vn):=HW.out
   have hc:=pput HP.out.1 (fun g hg=>Nat.lt_of_lt_of_le (HP.out.2.2.1 g hg).2 HP.out.2.2.2.2.2.1.size) f t ⟨nm,vk,vn⟩
   rw[HP.out.2.1] at hc
   have HQ:=qH hc
   clear hc hw
   go_wp2_with fail
   refine HQ.out.mono ?_
   rintro e w2 ⟨rfl,v2,L2,Q2,hp2,hL2,ho2,hv2,hQ2⟩
   have hEE:putE s.P f t ⟨nm,vk,vn⟩=E:=by rw[HE.out,HW.out];rfl
   have hPP:L2.map PcE.dat=setP s.P f t nm want:=by rw[hL2,HW.out];rfl
   rw[hEE]
   have hbw2:Below w.heap.size w w2:=by
    have h1:Below w.heap.size w w1:=up2 HP.out.2.2.2.2.2.2.1 HP.out.2.2.2.2.2.1
    exact h1.trans (ho2.below (Nat.le_of_lt (by have:=h1.size;have:=HP.out.2.2.2.2.2.1.size;have:=HP.out.2.2.2.2.2.2.2.1;omega)) (fun k hk=>hk.elim (fun e=>by have:=HP.out.2.2.2.1;have:=HP.out.2.2.2.2.2.2.2.1;omega) (fun e=>by have:=HP.out.2.2.2.2.1 k e;have:=HP.out.2.2.2.2.2.2.2.1;omega)))
   have hv2':∀ k,v2.ownBlock=some k->w.heap.size<k:=fun k hk=>(hv2 k hk).elim (fun e=>by have:=HP.out.2.2.2.2.1 k e;have:=HP.out.2.2.2.2.2.2.2.1;omega) (fun e=>by have:=HP.out.2.2.2.2.2.1.size;have:=HP.out.2.2.2.2.2.2.2.1;omega)
   have hQ2':∀ g,Q2 g->R0 g\/w.heap.size<=g:=fun g hg=>(hQ2 g hg).elim (fun e=>.inl (HP.out.2.2.1 g e).1) (fun e=>.inr (by have:=HP.out.2.2.2.2.2.1.size;have:=HP.out.2.2.2.2.2.2.2.1;omega))
   have kb:Blk w2 w.heap.size 31 #[.int .i64 vk,.int .i64 vn]:=HP.out.2.2.2.2.2.2.2.2.kept (ho2.block _ HP.out.2.2.2.2.2.2.2.2.lt (fun e=>e.elim (fun e=>by have:=HP.out.2.2.2.1;have:=HP.out.2.2.2.2.2.2.2.1;omega) (fun e=>by have:=HP.out.2.2.2.2.1 _ e;have:=HP.out.2.2.2.2.2.2.2.1;omega)))
   have HO:=qH (⟨hp2,hPP,hbw2,hv2',hQ2',kb,by have:=HP.out.2.2.2.1;have:=HP.out.2.2.2.2.2.2.2.1;omega⟩:PrsAt w2 b1 v2 L2 Q2/\_/\_/\_/\_/\_/\w.heap.size<b1)
   clear hp2 hPP hbw2 hv2' hQ2' kb hEE hL2 ho2 hv2 hQ2 HP HQ t0 t1
   by_cases hE0:E=0
   ·have hmay:=setE_may (HE.out.symm.trans hE0)
    have HE0:=qH hE0
    have HMay:=qH hmay
    have HG:=qH (ToA.refl (H.out.up HO.out.2.2.1))
    clear hmay
    rw[hE0]
    clear hE0
    go_wp2_with fail
    obtain⟨S1,hS1⟩:∃ z,z=(segsP s.P nm t (t - f).toNat f).foldl (noteV nm want) s:=⟨_,rfl⟩
    obtain⟨CH,hCH⟩:∃ z,z=(false || !((segsP s.P nm t (t - f).toNat f).all fun g=>decide (g.2.2=want))):=⟨_,rfl⟩
    have hSR:SegR s.P nm t want S1 CH f s false:=⟨_,Nat.le_refl _,hS1.symm,hCH.symm⟩
    have HSC:=qH (⟨hS1,hCH⟩:_/\_)
    have HSR:=qH hSR
    clear hS1 hCH hSR
    go_loopw [15,16] (fun va vb wr=>∃(x:Int) (st:St) (ch:Bool),va=.bool ch/\vb=.int .i64 x/\f<=x/\x<=t/\ToA N w2 b F0 R0 a st wr/\SameB s st/\SegR s.P nm t want S1 CH x st ch) (fun _ vb _=>(t - intOf vb).toNat)
    case atStart=>exact⟨f,s,false,rfl,rfl,Int.le_refl _,HMay.out.2.1,HG.out,SameB.refl s,HSR.out⟩
    case round=>
     obtain⟨x,st,ch,rfl,rfl,hfx,hxt,hg,sm,hsr⟩:=hrel
     obtain⟨wz,rfl⟩:∃ x,x=wr:=⟨_,rfl⟩
     by_cases hlt:x<t
     ·have q11:wz.cell? ⟨b,11,none⟩=some (pAt a.p):=hg.gb.cp
      have q11':=fun o=>cell_up q11 (below1 wz o)
      have HR:=qH (⟨hg,sm,hsr,hfx,hxt,hlt⟩:_/\_/\_/\_/\_/\_)
      have HGet:=qH (fun(W:World) (hb:Below wz.heap.size wz W)=>sm.P▸(hg.gb.up hb).pget x nm)
      have kbz:=HO.out.2.2.2.2.2.1.kept (hg.2.block w.heap.size HO.out.2.2.2.2.2.1.lt (fun e=>by have:=HF.out.2.2.2.1 _ e;omega))
      have KB:=qH kbz
      have HNx:=qH (fun(W:World) (hb:Below wz.heap.size wz W)=>sm.P▸(hg.gb.up hb).pnextOf x nm t)
      obtain⟨nx,hnx⟩:∃ z,z=nextP (sameOf nm) s.P x t:=⟨_,rfl⟩
      rw[<-hnx] at HNx
      obtain⟨o,ho⟩:∃ z,z=getP s.P x nm:=⟨_,rfl⟩
      rw[<-ho] at HGet
      have HOX:=qH (⟨hnx,ho⟩:_/\_)
      clear hg sm hsr hfx hxt hnx ho kbz
      cases o with
      | none=>
        have HGet:=qH (show ∀(W:World) (hb:Below wz.heap.size wz W),Calls Tryz.prog 86 #[pAt a.p,.int .i64 x,.int .i64 nm] W fun e w'=>e=.returned (.tuple #[.agg #[.int .i64 0,.int .i64 0],.bool false])/\Below W.heap.size W w' from HGet.out)
        go_wp2_with fail
        refine(HGet.out _ (Below.refl _ _)).mono ?_
        rintro e w3 ⟨rfl,hb3⟩
        have B3:=qH hb3
        have q11b:=cell_up q11 hb3
        have q11b':=fun o=>cell_up q11b (below1 w3 o)
        have ko:=Blk.made w3 31 #[.int .i64 0,.int .i64 0]
        have KO:=qH ko
        clear hb3 ko
        go_wp2_with fail
        refine(HNx.out _ (up2 B3.out (below1 w3 _))).mono ?_
        rintro e w4 ⟨rfl,hb4⟩
        have B4:=qH (up2 B3.out (up2 (below1 w3 _) hb4))
        have o0:=(KO.out.up hb4).cell (j:=0) rfl
        have o1:=(KO.out.up hb4).cell (j:=1) rfl
        have z0:=(KB.out.up B4.out).cell (j:=0) rfl
        have z1:=(KB.out.up B4.out).cell (j:=1) rfl
        have H4:=qH (HR.out.1.below B4.out)
        clear hb4 q11b q11b' q11 q11' KO
        have hne:¬(none:Option (Int × Int))=want:=by rw[HW.out];simp[wantOf]
        have hstep:=HR.out.2.2.1.step HR.out.2.2.2.2.2
        rw[<-HOX.out.1,<-HOX.out.2] at hstep
        have hnv:noteV nm want st (x,nx,none)=noteS st (propCg x nx nm (none)):=by unfold noteV;rw[if_neg hne]
        rw[hnv,decide_eq_false hne,Bool.not_false,Bool.or_true] at hstep
        have hnn:=nextP_gt (same:=sameOf nm) (P:=s.P) HR.out.2.2.2.2.2
        rw[<-HOX.out.1] at hnn
        have hok:ChgOk (propCg x nx nm (none)):=propCg_ok (by have:=HMay.out;have:=HR.out.2.2.2.1;omega) (by omega) (by have:=HMay.out;omega) HMay.out.2.2.2
        have HST:=qH (⟨hstep,hnn,hok⟩:_/\_/\_)
        clear hne hstep hnv hnn hok
        go_wp2_with fail
        refine(H4.out.gb.note (c:=propCg x nx nm (none)) ⟨(HB.out.same HR.out.2.1).pt1,(HB.out.same HR.out.2.1).pt⟩ HST.out.2.2).mono ?_
        rintro e w5 ⟨rfl,ht⟩
        have H5:=qH (H4.out.trans ht)
        clear ht o0 o1 z0 z1
        go_wp2_with fail
        go_roundw
        case rel=>exact⟨nx,_,true,rfl,rfl,by have:=HST.out.2.1;have:=HR.out.2.2.2.1;omega,HST.out.2.1.2,H5.out,HR.out.2.1.trans (noteS_same _ _),HST.out.1⟩
        case measure=>have:=HST.out.2.1;have:=HR.out.2.2.2.2.2;simp[intOf];omega
      | some v=>
        obtain⟨ok,on_⟩:=v
        have HGet:=qH (show ∀(W:World) (hb:Below wz.heap.size wz W),Calls Tryz.prog 86 #[pAt a.p,.int .i64 x,.int .i64 nm] W fun e w'=>e=.returned (.tuple #[.agg #[.int .i64 ok,.int .i64 on_],.bool true])/\Below W.heap.size W w' from HGet.out)
        go_wp2_with fail
        refine(HGet.out _ (Below.refl _ _)).mono ?_
        rintro e w3 ⟨rfl,hb3⟩
        have B3:=qH hb3
        have q11b:=cell_up q11 hb3
        have q11b':=fun o=>cell_up q11b (below1 w3 o)
        have ko:=Blk.made w3 31 #[.int .i64 ok,.int .i64 on_]
        have KO:=qH ko
        clear hb3 ko
        go_wp2_with fail
        refine(HNx.out _ (up2 B3.out (below1 w3 _))).mono ?_
        rintro e w4 ⟨rfl,hb4⟩
        have B4:=qH (up2 B3.out (up2 (below1 w3 _) hb4))
        have o0:=(KO.out.up hb4).cell (j:=0) rfl
        have o1:=(KO.out.up hb4).cell (j:=1) rfl
        have z0:=(KB.out.up B4.out).cell (j:=0) rfl
        have z1:=(KB.out.up B4.out).cell (j:=1) rfl
        have H4:=qH (HR.out.1.below B4.out)
        clear hb4 q11b q11b' q11 q11' KO
        by_cases hv:ok=vk/\on_=vn
        ·obtain⟨rfl,rfl⟩:=hv
         have hcmp:=neqWd ok on_ ok on_
         rw[show(!(ok == ok && on_ == on_))=false by simp] at hcmp
         have he:(some (ok,on_):Option (Int × Int))=want:=by rw[HW.out];rfl
         have hstep:=HR.out.2.2.1.step HR.out.2.2.2.2.2
         rw[<-HOX.out.1,<-HOX.out.2] at hstep
         have hnv:noteV nm want st (x,nx,some (ok,on_))=st:=by unfold noteV;rw[if_pos he]
         rw[hnv,decide_eq_true he,Bool.not_true,Bool.or_false] at hstep
         have hnn:=nextP_gt (same:=sameOf nm) (P:=s.P) HR.out.2.2.2.2.2
         rw[<-HOX.out.1] at hnn
         have HST:=qH (⟨hstep,hnn⟩:_/\_)
         clear he hstep hnv hnn
         go_wp2_with fail
         go_roundw
         case rel=>exact⟨nx,_,ch,rfl,rfl,by have:=HST.out.2;have:=HR.out.2.2.2.1;omega,HST.out.2.2,H4.out,HR.out.2.1,HST.out.1⟩
         case measure=>have:=HST.out.2;have:=HR.out.2.2.2.2.2;simp[intOf];omega
        ·have hcmp:=neqWd ok on_ vk vn
         rw[show(ok == vk && on_ == vn)=false by rw[Bool.eq_false_iff];intro e;simp at e;exact hv e,Bool.not_false] at hcmp
         have HV:=qH hv
         clear hv
         have hne:¬(some (ok,on_):Option (Int × Int))=want:=by rw[HW.out];intro e;simp[wantOf] at e;exact HV.out e
         have hstep:=HR.out.2.2.1.step HR.out.2.2.2.2.2
         rw[<-HOX.out.1,<-HOX.out.2] at hstep
         have hnv:noteV nm want st (x,nx,some (ok,on_))=noteS st (propCg x nx nm (some (ok,on_))):=by unfold noteV;rw[if_neg hne]
         rw[hnv,decide_eq_false hne,Bool.not_false,Bool.or_true] at hstep
         have hnn:=nextP_gt (same:=sameOf nm) (P:=s.P) HR.out.2.2.2.2.2
         rw[<-HOX.out.1] at hnn
         have hok:ChgOk (propCg x nx nm (some (ok,on_))):=propCg_ok (by have:=HMay.out;have:=HR.out.2.2.2.1;omega) (by omega) (by have:=HMay.out;omega) HMay.out.2.2.2
         have HST:=qH (⟨hstep,hnn,hok⟩:_/\_/\_)
         clear hne hstep hnv hnn hok
         go_wp2_with fail
         refine(H4.out.gb.note (c:=propCg x nx nm (some (ok,on_))) ⟨(HB.out.same HR.out.2.1).pt1,(HB.out.same HR.out.2.1).pt⟩ HST.out.2.2).mono ?_
         rintro e w5 ⟨rfl,ht⟩
         have H5:=qH (H4.out.trans ht)
         clear ht o0 o1 z0 z1
         go_wp2_with fail
         go_roundw
         case rel=>exact⟨nx,_,true,rfl,rfl,by have:=HST.out.2.1;have:=HR.out.2.2.2.1;omega,HST.out.2.1.2,H5.out,HR.out.2.1.trans (noteS_same _ _),HST.out.1⟩
         case measure=>have:=HST.out.2.1;have:=HR.out.2.2.2.2.2;simp[intOf];omega
     ·obtain⟨e1,e2⟩:=hsr.stop hlt
      have hsE:setE s.P f t nm want=0:=HE.out.symm.trans HE0.out
      have hS2:S2=if CH=true then { st with P:=setP s.P f t nm want,tick:=st.tick+1 } else st:=by
       rw[HS2.out];unfold setS;rw[if_neg (by rw[hsE];simp)]
       dsimp only
       rw[<-HSC.out.1,<-e1,HSC.out.2,Bool.false_or]
       cases ((segsP s.P nm t (t - f).toNat f).all fun g=>decide (g.2.2=want))<;>simp
      have HS2:=qH hS2
      have HG1:=qH hg
      have SM:=qH sm
      have HHT:=qH (⟨HE0.out,hxt⟩:_/\_)
      have d1:decide (x<t)=false:=decide_eq_false hlt
      have d2:(x<t)=False:=eq_false hlt
      clear hS2 hsE hsr e1 hg sm hxt hfx
      subst e2
      cases ch with
      | false=>
        go_wp2_with fail
        go_ret
        refine⟨by rw[HE0.out];rfl,?_⟩
        rw[HS2.out,if_neg (by simp)]
        exact((ToA.before H.out HO.out.2.2.1 HG1.out).widen HF.out.1 HF.out.2.1 HF.out.2.2.2.2.2.1 HF.out.2.2.2.2.2.2).to
      | true=>
        have q7:wz.cell? ⟨b,7,none⟩=some (.int .i64 (s.tick:Int)):=SM.out.tick▸HG1.out.gb.ctick
        have f7:=HG1.out.gb.buf.fz 7
        have q11:wz.cell? ⟨b,11,none⟩=some (pAt a.p):=HG1.out.gb.cp
        have f11:=HG1.out.gb.buf.fz 11
        have s7:IntKind.i64.wrap ((s.tick:Int)+1)=((s.tick+1:Nat):Int):=by have:=HB.out.tick;rw[IntWalk.i64_in _ (by omega)];omega
        go_wp2_with fail
        go_ret
        refine⟨by rw[HE0.out];rfl,?_⟩
        rw[HS2.out]
        simp only[if_true]
        have hp:=HO.out.1.shrink
        have hgN:∀ k,F0 k->¬ w.heap.size<=k:=fun k hk e=>by have:=HF.out.2.2.2.1 k hk;omega
        have hQf:∀ g,Q2 g->¬ F0 g:=fun g hg hf=>(HO.out.2.2.2.2.1 g hg).elim (fun e=>HF.out.2.2.1 g hf e) (hgN g hf)
        have hp2:=hp.only HG1.out.2 (fun e=>by have:=HF.out.2.2.2.1 _ e;have:=HO.out.2.2.2.2.2.2;omega) (fun k hk e=>by have:=HF.out.2.2.2.1 _ e;have:=HO.out.2.2.2.1 k hk;omega) (fun k hk _ e=>hQf k hk.1 e)
        have hsw:=HG1.out.gb.swap hp2 (by rw[HO.out.2.1];have:=HG1.out.gb.nmOk.setP f t nm want;rw[SM.out.P] at this;exact this) (fun k hk e=>by
         have hlt:k<w2.heap.size:=hk.elim (fun e=>e▸HO.out.1.blk.lt) (fun e=>e.elim (fun e=>HO.out.1.own.lt e) (fun e=>e.2))
         refine e.elim (fun e=>?_) (fun e=>by omega)
         exact hk.elim (fun e2=>hgN k e (by have:=HO.out.2.2.2.2.2.2;omega)) (fun e2=>e2.elim (fun e2=>hgN k e (Nat.le_of_lt (HO.out.2.2.2.1 k e2))) (fun e2=>hQf k e2.1 e)))
         (by have:=HF.out.2.2.2.2.2.2;have:=HO.out.2.2.2.2.2.2;omega) (fun k hk=>by have:=HF.out.2.2.2.2.2.2;have:=HO.out.2.2.2.1 k hk;omega)
        rw[HO.out.2.1] at hsw
        have hst:=hsw.store { { st with P:=setP s.P f t nm want } with tick:=st.tick+1 } (j:=7) (by omega) (.int .i64 ((s.tick:Int)+1)) ⟨rfl,rfl,rfl,rfl,rfl,rfl,rfl,rfl,rfl,rfl⟩ (by rw[show((s.tick:Int)+1)=((st.tick+1:Nat):Int) by rw[SM.out.tick];omega];rfl)
        have hb0:F0 b:=H.out.ib
        have hsz:(wz.setCell ⟨b,11,none⟩ (pAt b1)).heap.size=wz.heap.size:=by simp[World.setCell]
        have hs2:=HO.out.2.2.1.size
        have hs3:=HG1.out.2.size
        refine⟨_,hst.1.mono (fun k hk=>?_) (fun k hk=>?_) (fun k hk=>hk.elim (HF.out.2.2.2.2.2.1 k) (fun e=>Nat.le_trans HF.out.2.2.2.2.2.2 e)),?_⟩
        ·refine hk.elim (fun hk=>hk.elim (fun hk=>hk.elim (fun e=>.inl (HF.out.1 k e)) (fun e=>.inr (by omega))) (fun e=>.inr ?_)) (fun e=>.inr (by rw[hsz] at e;omega))
         exact e.elim (fun e=>by have:=HO.out.2.2.2.2.2.2;omega) (fun e=>Nat.le_of_lt (HO.out.2.2.2.1 k e))
        ·refine hk.elim (fun hk=>hk.elim (fun hk=>hk.elim (fun e=>.inl (HF.out.2.1 k e)) (fun e=>.inr (by omega))) (fun e=>?_)) (fun e=>.inr (by rw[hsz] at e;omega))
         exact(HO.out.2.2.2.2.1 k e.1).elim (fun e=>.inl (HF.out.2.1 k e)) .inr
        ·exact(((Only.of_below HO.out.2.2.1).trans HG1.out.2).setCell (p:=⟨b,11,none⟩) hb0 _ |>.setCell (p:=⟨b,7,none⟩) hb0 _).mono HF.out.1
   ·have e1:((E:Int) != 0)=true:=by simpa using hE0
    have e2:(E=0)=False:=eq_false hE0
    have HEN:=qH hE0
    clear hE0
    go_wp2_with fail
    go_ret
    refine⟨rfl,?_⟩
    have hs:S2=s:=by rw[HS2.out];unfold setS;rw[<-HE.out,if_pos HEN.out]
    rw[hs]
    exact((ToA.of_below H.out HO.out.2.2.1).widen HF.out.1 HF.out.2.1 HF.out.2.2.2.2.2.1 HF.out.2.2.2.2.2.2).to
 | false=>
   have hw:want=none:=HW.out
   have hc:=ptakeP HP.out.1 (fun g hg=>Nat.lt_of_lt_of_le (HP.out.2.2.1 g hg).2 HP.out.2.2.2.2.2.1.size) f t nm
   rw[HP.out.2.1] at hc
   have HQ:=qH hc
   clear hc hw
   go_wp2_with fail
   refine HQ.out.mono ?_
   rintro e w2 ⟨rfl,v2,L2,Q2,hp2,hL2,ho2,hv2,hQ2⟩
   have hEE:checkP f t nm=E:=by rw[HE.out,HW.out];rfl
   have hPP:L2.map PcE.dat=setP s.P f t nm want:=by rw[hL2,HW.out];rfl
   rw[hEE]
   have hbw2:Below w.heap.size w w2:=by
    have h1:Below w.heap.size w w1:=up2 HP.out.2.2.2.2.2.2.1 HP.out.2.2.2.2.2.1
    exact h1.trans (ho2.below (Nat.le_of_lt (by have:=h1.size;have:=HP.out.2.2.2.2.2.1.size;have:=HP.out.2.2.2.2.2.2.2.1;omega)) (fun k hk=>hk.elim (fun e=>by have:=HP.out.2.2.2.1;have:=HP.out.2.2.2.2.2.2.2.1;omega) (fun e=>by have:=HP.out.2.2.2.2.1 k e;have:=HP.out.2.2.2.2.2.2.2.1;omega)))
   have hv2':∀ k,v2.ownBlock=some k->w.heap.size<k:=fun k hk=>(hv2 k hk).elim (fun e=>by have:=HP.out.2.2.2.2.1 k e;have:=HP.out.2.2.2.2.2.2.2.1;omega) (fun e=>by have:=HP.out.2.2.2.2.2.1.size;have:=HP.out.2.2.2.2.2.2.2.1;omega)
   have hQ2':∀ g,Q2 g->R0 g\/w.heap.size<=g:=fun g hg=>(hQ2 g hg).elim (fun e=>.inl (HP.out.2.2.1 g e).1) (fun e=>.inr (by have:=HP.out.2.2.2.2.2.1.size;have:=HP.out.2.2.2.2.2.2.2.1;omega))
   have kb:Blk w2 w.heap.size 31 #[.int .i64 vk,.int .i64 vn]:=HP.out.2.2.2.2.2.2.2.2.kept (ho2.block _ HP.out.2.2.2.2.2.2.2.2.lt (fun e=>e.elim (fun e=>by have:=HP.out.2.2.2.1;have:=HP.out.2.2.2.2.2.2.2.1;omega) (fun e=>by have:=HP.out.2.2.2.2.1 _ e;have:=HP.out.2.2.2.2.2.2.2.1;omega)))
   have HO:=qH (⟨hp2,hPP,hbw2,hv2',hQ2',kb,by have:=HP.out.2.2.2.1;have:=HP.out.2.2.2.2.2.2.2.1;omega⟩:PrsAt w2 b1 v2 L2 Q2/\_/\_/\_/\_/\_/\w.heap.size<b1)
   clear hp2 hPP hbw2 hv2' hQ2' kb hEE hL2 ho2 hv2 hQ2 HP HQ t0 t1
   by_cases hE0:E=0
   ·have hmay:=setE_may (HE.out.symm.trans hE0)
    have HE0:=qH hE0
    have HMay:=qH hmay
    have HG:=qH (ToA.refl (H.out.up HO.out.2.2.1))
    clear hmay
    rw[hE0]
    clear hE0
    go_wp2_with fail
    obtain⟨S1,hS1⟩:∃ z,z=(segsP s.P nm t (t - f).toNat f).foldl (noteV nm want) s:=⟨_,rfl⟩
    obtain⟨CH,hCH⟩:∃ z,z=(false || !((segsP s.P nm t (t - f).toNat f).all fun g=>decide (g.2.2=want))):=⟨_,rfl⟩
    have hSR:SegR s.P nm t want S1 CH f s false:=⟨_,Nat.le_refl _,hS1.symm,hCH.symm⟩
    have HSC:=qH (⟨hS1,hCH⟩:_/\_)
    have HSR:=qH hSR
    clear hS1 hCH hSR
    go_loopw [15,16] (fun va vb wr=>∃(x:Int) (st:St) (ch:Bool),va=.bool ch/\vb=.int .i64 x/\f<=x/\x<=t/\ToA N w2 b F0 R0 a st wr/\SameB s st/\SegR s.P nm t want S1 CH x st ch) (fun _ vb _=>(t - intOf vb).toNat)
    case atStart=>exact⟨f,s,false,rfl,rfl,Int.le_refl _,HMay.out.2.1,HG.out,SameB.refl s,HSR.out⟩
    case round=>
     obtain⟨x,st,ch,rfl,rfl,hfx,hxt,hg,sm,hsr⟩:=hrel
     obtain⟨wz,rfl⟩:∃ x,x=wr:=⟨_,rfl⟩
     by_cases hlt:x<t
     ·have q11:wz.cell? ⟨b,11,none⟩=some (pAt a.p):=hg.gb.cp
      have q11':=fun o=>cell_up q11 (below1 wz o)
      have HR:=qH (⟨hg,sm,hsr,hfx,hxt,hlt⟩:_/\_/\_/\_/\_/\_)
      have HGet:=qH (fun(W:World) (hb:Below wz.heap.size wz W)=>sm.P▸(hg.gb.up hb).pget x nm)
      have kbz:=HO.out.2.2.2.2.2.1.kept (hg.2.block w.heap.size HO.out.2.2.2.2.2.1.lt (fun e=>by have:=HF.out.2.2.2.1 _ e;omega))
      have KB:=qH kbz
      have HNx:=qH (fun(W:World) (hb:Below wz.heap.size wz W)=>sm.P▸(hg.gb.up hb).pnextOf x nm t)
      obtain⟨nx,hnx⟩:∃ z,z=nextP (sameOf nm) s.P x t:=⟨_,rfl⟩
      rw[<-hnx] at HNx
      obtain⟨o,ho⟩:∃ z,z=getP s.P x nm:=⟨_,rfl⟩
      rw[<-ho] at HGet
      have HOX:=qH (⟨hnx,ho⟩:_/\_)
      clear hg sm hsr hfx hxt hnx ho kbz
      cases o with
      | none=>
        have HGet:=qH (show ∀(W:World) (hb:Below wz.heap.size wz W),Calls Tryz.prog 86 #[pAt a.p,.int .i64 x,.int .i64 nm] W fun e w'=>e=.returned (.tuple #[.agg #[.int .i64 0,.int .i64 0],.bool false])/\Below W.heap.size W w' from HGet.out)
        go_wp2_with fail
        refine(HGet.out _ (Below.refl _ _)).mono ?_
        rintro e w3 ⟨rfl,hb3⟩
        have B3:=qH hb3
        have q11b:=cell_up q11 hb3
        have q11b':=fun o=>cell_up q11b (below1 w3 o)
        have ko:=Blk.made w3 31 #[.int .i64 0,.int .i64 0]
        have KO:=qH ko
        clear hb3 ko
        go_wp2_with fail
        refine(HNx.out _ (up2 B3.out (below1 w3 _))).mono ?_
        rintro e w4 ⟨rfl,hb4⟩
        have B4:=qH (up2 B3.out (up2 (below1 w3 _) hb4))
        have o0:=(KO.out.up hb4).cell (j:=0) rfl
        have o1:=(KO.out.up hb4).cell (j:=1) rfl
        have z0:=(KB.out.up B4.out).cell (j:=0) rfl
        have z1:=(KB.out.up B4.out).cell (j:=1) rfl
        have H4:=qH (HR.out.1.below B4.out)
        clear hb4 q11b q11b' q11 q11' KO
        have he:(none:Option (Int × Int))=want:=by rw[HW.out];rfl
        have hstep:=HR.out.2.2.1.step HR.out.2.2.2.2.2
        rw[<-HOX.out.1,<-HOX.out.2] at hstep
        have hnv:noteV nm want st (x,nx,none)=st:=by unfold noteV;rw[if_pos he]
        rw[hnv,decide_eq_true he,Bool.not_true,Bool.or_false] at hstep
        have hnn:=nextP_gt (same:=sameOf nm) (P:=s.P) HR.out.2.2.2.2.2
        rw[<-HOX.out.1] at hnn
        have HST:=qH (⟨hstep,hnn⟩:_/\_)
        clear he hstep hnv hnn
        go_wp2_with fail
        go_roundw
        case rel=>exact⟨nx,_,ch,rfl,rfl,by have:=HST.out.2;have:=HR.out.2.2.2.1;omega,HST.out.2.2,H4.out,HR.out.2.1,HST.out.1⟩
        case measure=>have:=HST.out.2;have:=HR.out.2.2.2.2.2;simp[intOf];omega
      | some v=>
        obtain⟨ok,on_⟩:=v
        have HGet:=qH (show ∀(W:World) (hb:Below wz.heap.size wz W),Calls Tryz.prog 86 #[pAt a.p,.int .i64 x,.int .i64 nm] W fun e w'=>e=.returned (.tuple #[.agg #[.int .i64 ok,.int .i64 on_],.bool true])/\Below W.heap.size W w' from HGet.out)
        go_wp2_with fail
        refine(HGet.out _ (Below.refl _ _)).mono ?_
        rintro e w3 ⟨rfl,hb3⟩
        have B3:=qH hb3
        have q11b:=cell_up q11 hb3
        have q11b':=fun o=>cell_up q11b (below1 w3 o)
        have ko:=Blk.made w3 31 #[.int .i64 ok,.int .i64 on_]
        have KO:=qH ko
        clear hb3 ko
        go_wp2_with fail
        refine(HNx.out _ (up2 B3.out (below1 w3 _))).mono ?_
        rintro e w4 ⟨rfl,hb4⟩
        have B4:=qH (up2 B3.out (up2 (below1 w3 _) hb4))
        have o0:=(KO.out.up hb4).cell (j:=0) rfl
        have o1:=(KO.out.up hb4).cell (j:=1) rfl
        have z0:=(KB.out.up B4.out).cell (j:=0) rfl
        have z1:=(KB.out.up B4.out).cell (j:=1) rfl
        have H4:=qH (HR.out.1.below B4.out)
        clear hb4 q11b q11b' q11 q11' KO
        have hne:¬(some (ok,on_):Option (Int × Int))=want:=by rw[HW.out];simp[wantOf]
        have hstep:=HR.out.2.2.1.step HR.out.2.2.2.2.2
        rw[<-HOX.out.1,<-HOX.out.2] at hstep
        have hnv:noteV nm want st (x,nx,some (ok,on_))=noteS st (propCg x nx nm (some (ok,on_))):=by unfold noteV;rw[if_neg hne]
        rw[hnv,decide_eq_false hne,Bool.not_false,Bool.or_true] at hstep
        have hnn:=nextP_gt (same:=sameOf nm) (P:=s.P) HR.out.2.2.2.2.2
        rw[<-HOX.out.1] at hnn
        have hok:ChgOk (propCg x nx nm (some (ok,on_))):=propCg_ok (by have:=HMay.out;have:=HR.out.2.2.2.1;omega) (by omega) (by have:=HMay.out;omega) HMay.out.2.2.2
        have HST:=qH (⟨hstep,hnn,hok⟩:_/\_/\_)
        clear hne hstep hnv hnn hok
        go_wp2_with fail
        refine(H4.out.gb.note (c:=propCg x nx nm (some (ok,on_))) ⟨(HB.out.same HR.out.2.1).pt1,(HB.out.same HR.out.2.1).pt⟩ HST.out.2.2).mono ?_
        rintro e w5 ⟨rfl,ht⟩
        have H5:=qH (H4.out.trans ht)
        clear ht o0 o1 z0 z1
        go_wp2_with fail
        go_roundw
        case rel=>exact⟨nx,_,true,rfl,rfl,by have:=HST.out.2.1;have:=HR.out.2.2.2.1;omega,HST.out.2.1.2,H5.out,HR.out.2.1.trans (noteS_same _ _),HST.out.1⟩
        case measure=>have:=HST.out.2.1;have:=HR.out.2.2.2.2.2;simp[intOf];omega
     ·obtain⟨e1,e2⟩:=hsr.stop hlt
      have hsE:setE s.P f t nm want=0:=HE.out.symm.trans HE0.out
      have hS2:S2=if CH=true then { st with P:=setP s.P f t nm want,tick:=st.tick+1 } else st:=by
       rw[HS2.out];unfold setS;rw[if_neg (by rw[hsE];simp)]
       dsimp only
       rw[<-HSC.out.1,<-e1,HSC.out.2,Bool.false_or]
       cases ((segsP s.P nm t (t - f).toNat f).all fun g=>decide (g.2.2=want))<;>simp
      have HS2:=qH hS2
      have HG1:=qH hg
      have SM:=qH sm
      have HHT:=qH (⟨HE0.out,hxt⟩:_/\_)
      have d1:decide (x<t)=false:=decide_eq_false hlt
      have d2:(x<t)=False:=eq_false hlt
      clear hS2 hsE hsr e1 hg sm hxt hfx
      subst e2
      cases ch with
      | false=>
        go_wp2_with fail
        go_ret
        refine⟨by rw[HE0.out];rfl,?_⟩
        rw[HS2.out,if_neg (by simp)]
        exact((ToA.before H.out HO.out.2.2.1 HG1.out).widen HF.out.1 HF.out.2.1 HF.out.2.2.2.2.2.1 HF.out.2.2.2.2.2.2).to
      | true=>
        have q7:wz.cell? ⟨b,7,none⟩=some (.int .i64 (s.tick:Int)):=SM.out.tick▸HG1.out.gb.ctick
        have f7:=HG1.out.gb.buf.fz 7
        have q11:wz.cell? ⟨b,11,none⟩=some (pAt a.p):=HG1.out.gb.cp
        have f11:=HG1.out.gb.buf.fz 11
        have s7:IntKind.i64.wrap ((s.tick:Int)+1)=((s.tick+1:Nat):Int):=by have:=HB.out.tick;rw[IntWalk.i64_in _ (by omega)];omega
        go_wp2_with fail
        go_ret
        refine⟨by rw[HE0.out];rfl,?_⟩
        rw[HS2.out]
        simp only[if_true]
        have hp:=HO.out.1.shrink
        have hgN:∀ k,F0 k->¬ w.heap.size<=k:=fun k hk e=>by have:=HF.out.2.2.2.1 k hk;omega
        have hQf:∀ g,Q2 g->¬ F0 g:=fun g hg hf=>(HO.out.2.2.2.2.1 g hg).elim (fun e=>HF.out.2.2.1 g hf e) (hgN g hf)
        have hp2:=hp.only HG1.out.2 (fun e=>by have:=HF.out.2.2.2.1 _ e;have:=HO.out.2.2.2.2.2.2;omega) (fun k hk e=>by have:=HF.out.2.2.2.1 _ e;have:=HO.out.2.2.2.1 k hk;omega) (fun k hk _ e=>hQf k hk.1 e)
        have hsw:=HG1.out.gb.swap hp2 (by rw[HO.out.2.1];have:=HG1.out.gb.nmOk.setP f t nm want;rw[SM.out.P] at this;exact this) (fun k hk e=>by
         have hlt:k<w2.heap.size:=hk.elim (fun e=>e▸HO.out.1.blk.lt) (fun e=>e.elim (fun e=>HO.out.1.own.lt e) (fun e=>e.2))
         refine e.elim (fun e=>?_) (fun e=>by omega)
         exact hk.elim (fun e2=>hgN k e (by have:=HO.out.2.2.2.2.2.2;omega)) (fun e2=>e2.elim (fun e2=>hgN k e (Nat.le_of_lt (HO.out.2.2.2.1 k e2))) (fun e2=>hQf k e2.1 e)))
         (by have:=HF.out.2.2.2.2.2.2;have:=HO.out.2.2.2.2.2.2;omega) (fun k hk=>by have:=HF.out.2.2.2.2.2.2;have:=HO.out.2.2.2.1 k hk;omega)
        rw[HO.out.2.1] at hsw
        have hst:=hsw.store { { st with P:=setP s.P f t nm want } with tick:=st.tick+1 } (j:=7) (by omega) (.int .i64 ((s.tick:Int)+1)) ⟨rfl,rfl,rfl,rfl,rfl,rfl,rfl,rfl,rfl,rfl⟩ (by rw[show((s.tick:Int)+1)=((st.tick+1:Nat):Int) by rw[SM.out.tick];omega];rfl)
        have hb0:F0 b:=H.out.ib
        have hsz:(wz.setCell ⟨b,11,none⟩ (pAt b1)).heap.size=wz.heap.size:=by simp[World.setCell]
        have hs2:=HO.out.2.2.1.size
        have hs3:=HG1.out.2.size
        refine⟨_,hst.1.mono (fun k hk=>?_) (fun k hk=>?_) (fun k hk=>hk.elim (HF.out.2.2.2.2.2.1 k) (fun e=>Nat.le_trans HF.out.2.2.2.2.2.2 e)),?_⟩
        ·refine hk.elim (fun hk=>hk.elim (fun hk=>hk.elim (fun e=>.inl (HF.out.1 k e)) (fun e=>.inr (by omega))) (fun e=>.inr ?_)) (fun e=>.inr (by rw[hsz] at e;omega))
         exact e.elim (fun e=>by have:=HO.out.2.2.2.2.2.2;omega) (fun e=>Nat.le_of_lt (HO.out.2.2.2.1 k e))
        ·refine hk.elim (fun hk=>hk.elim (fun hk=>hk.elim (fun e=>.inl (HF.out.2.1 k e)) (fun e=>.inr (by omega))) (fun e=>?_)) (fun e=>.inr (by rw[hsz] at e;omega))
         exact(HO.out.2.2.2.2.1 k e.1).elim (fun e=>.inl (HF.out.2.1 k e)) .inr
        ·exact(((Only.of_below HO.out.2.2.1).trans HG1.out.2).setCell (p:=⟨b,11,none⟩) hb0 _ |>.setCell (p:=⟨b,7,none⟩) hb0 _).mono HF.out.1
   ·have e1:((E:Int) != 0)=true:=by simpa using hE0
    have e2:(E=0)=False:=eq_false hE0
    have HEN:=qH hE0
    clear hE0
    go_wp2_with fail
    go_ret
    refine⟨rfl,?_⟩
    have hs:S2=s:=by rw[HS2.out];unfold setS;rw[<-HE.out,if_pos HEN.out]
    rw[hs]
    exact((ToA.of_below H.out HO.out.2.2.1).widen HF.out.1 HF.out.2.1 HF.out.2.2.2.2.2.1 HF.out.2.2.2.2.2.2).to
end
end Go.Proofs.YtkpoodjhjfmfjaaGreatDoor
namespace Go.Proofs.YtkpoodjhjfmfjaaGreatDoor
open Go.RowKit Go.Lib
open Ovs (PropE encP eltP)
def reachS (s:St) (x y:Int):Bool:=decide ((s.lo:Int)<=x) && decide (x<=y) && decide (y<=(s.hi:Int))
def validS (s:St) (x y:Int):Bool:=decide (1<=x) && decide (x<=y) && decide (y<=((s.cs.length+1:Nat):Int))
def lockS (s:St) (x:Int):Bool:=lockB (getP s.P x s.lock)
def gapS (s:St) (x:Int):Bool:=s.fo ||(!s.ro && !(lockS s x && lockS s (x - 1)))
def partS (s:St) (x y:Int):Bool:=s.fo ||(!((spansP s.P x y 0).any fun p=>lockS s p.f) && !s.ro)
def openE (s:St):Int:=if s.ro=true/\s.fo=false then 14 else 0
def errB (e:Int) (b:Bool):Int:=if b=true then 0 else e
def ChkP (w:World) (P:Prop) (E:Int) (r:Ending) (w':World):Prop:=∃ c:Chk,r=.returned c.val/\c.e=E/\Below w.heap.size w w'/\ChkAt w' P c
section
variable {w w' w1 : World} {N b n : Nat} {F R : Nat → Prop} {a : Adr} {s s' : St}
theorem GBa.getAt (h:GBa N w b F R a s):GetAt w a.p (getP s.P):=fun x nm w1 hb=>(h.up hb).pget x nm
theorem GBa.none_ (h:GBa N w b F R a s):Calls Tryz.prog 74 #[pAt b] w fun e w'=>e=.returned (.bool false)/\w=w':=bnoneB h.buf
theorem GBa.made_ (h:GBa N w b F R a s):ChkAt w True (madeC b):=ChkAt.made h.buf
theorem GBa.within_ (h:GBa N w b F R a s) (x y:Int):Calls Tryz.prog 76 #[pAt b,.int .i64 x,.int .i64 y] w (ChkP w True (errB 3 (reachS s x y))):=
 (within_ok h.buf x y).mono fun r w' ⟨ke,kf,hr,hb,hc⟩=>⟨_,hr,rfl,hb,hc⟩
theorem GBa.gapOpen_ (h:GBa N w b F R a s) (x:Int):Calls Tryz.prog 89 #[pAt b,.int .i64 x] w (ChkP w (0<=x/\x<=1000000000) (errB 14 (gapS s x))):=
 (gapOpen_ok h.buf h.getAt x).mono fun r w' ⟨ke,kf,hr,hb,hc⟩=>⟨_,hr,rfl,hb,hc⟩
theorem GBa.fits_ (h:GBa N w b F R a s) (tx:ByteArray) (hs:tx.size<=262144) (less:Int):Calls Tryz.prog 90 #[pAt b,.string tx,.int .i64 less] w (ChkP w (-1000000000000<=less/\less<=1000000000000) (fitsE tx s.cs.length less)):=
 (fits_ok h.tabs h.buf tx (by omega) less (by have:=h.len;omega) (fun w1 hb=>(h.up hb).tsize)).mono fun r w' ⟨k0,k1,k2,hr,hb,hc⟩=>⟨_,hr,rfl,hb,hc⟩
set_option maxRecDepth 100000 in
set_option maxHeartbeats 1000000 in
theorem GBa.may_ (h:GBa N w b F R a s) (x y:Int):Calls Tryz.prog 140 #[pAt b,.int .i64 x,.int .i64 y] w fun r w2=>r=.returned (.bool (validS s x y))/\Below w.heap.size w w2:=by
 have c9:=h.ct
 have hlen:=h.len
 have HS:=qH h.tsize
 have s1:IntKind.i64.wrap ((s.cs.length:Int)+1)=((s.cs.length+1:Nat):Int):=by rw[IntWalk.i64_in _ (by omega)];omega
 unfold validS
 obtain⟨n,hn⟩:∃ n:Int,((s.cs.length+1:Nat):Int)=n:=⟨_,rfl⟩
 rw[hn] at s1 ⊢
 clear h hlen hn
 cases d1:decide (1<=x) with
 | false=>
   go_enter Tryz.func140,Tryz.ntmps140
   go_wp2_with fail
   go_ret
   exact⟨rfl,Below.refl _ _⟩
 | true=>
   cases d2:decide (x<=y) with
   | false=>
     go_enter Tryz.func140,Tryz.ntmps140
     go_wp2_with fail
     go_ret
     exact⟨rfl,Below.refl _ _⟩
   | true=>
     cases d3:decide (y<=n) with
     | false=>
       go_enter Tryz.func140,Tryz.ntmps140
       go_wp2_with fail
       refine HS.out.mono ?_
       rintro r w1 ⟨rfl,hb1⟩
       go_wp2_with fail
       go_ret
       exact⟨rfl,hb1⟩
     | true=>
       go_enter Tryz.func140,Tryz.ntmps140
       go_wp2_with fail
       refine HS.out.mono ?_
       rintro r w1 ⟨rfl,hb1⟩
       go_wp2_with fail
       go_ret
       exact⟨rfl,hb1⟩
set_option maxHeartbeats 1000000 in
theorem GBa.valid1 {k0 k1 k2:Nat} (h:GBa N w b F R a s) (x y:Int) (h0:w.cell? ⟨k0,0,none⟩=some (pAt b)) (h1:w.cell? ⟨k1,0,none⟩=some (.int .i64 x)) (h2:w.cell? ⟨k2,0,none⟩=some (.int .i64 y)) :
  Calls Tryz.prog 139 #[pAt k0,pAt k1,pAt k2] w fun r w2=>r=.returned (.bool (validS s x y))/\Below w.heap.size w w2:=by
 have HR:=qH (h.may_ x y)
 clear h
 go_enter Tryz.func139,Tryz.ntmps139
 go_wp2_with fail
 refine HR.out.mono ?_
 rintro r w1 ⟨rfl,hb1⟩
 go_wp2_with fail
 go_ret
 exact⟨rfl,hb1⟩
set_option maxHeartbeats 1000000 in
theorem GBa.valid_ (h:GBa N w b F R a s) (x y:Int):Calls Tryz.prog 71 #[pAt b,.int .i64 x,.int .i64 y] w (ChkP w True (errB 3 (validS s x y))):=by
 have HB:=qH h
 clear h
 obtain⟨E,hE⟩:∃ E:Int,errB 3 (validS s x y)=E:=⟨_,rfl⟩
 rw[hE]
 have HE:=qH hE
 clear hE
 go_enter Tryz.func71,Tryz.ntmps71
 go_wp2_with fail
 have hb3:=below3 w (.cells #[pAt b] 22) (.cells #[.int .i64 x] 3) (.cells #[.int .i64 y] 3)
 obtain⟨a0,a1,a2⟩:=al3 w (pAt b) (.int .i64 x) (.int .i64 y) 22 3 3
 generalize ((w.alloc (.cells #[pAt b] 22)).alloc (.cells #[.int .i64 x] 3)).alloc (.cells #[.int .i64 y] 3)=W at *
 refine(unless_ok 3 139 #[] #[pAt w.heap.size,pAt (w.heap.size+1),pAt (w.heap.size+2)] W).mono ?_
 rintro r w1 ⟨rfl,hb1,he,hf⟩
 go_wp2_with fail
 go_ret
 refine⟨_,rfl,HE.out,up2 hb3 hb1,ChkAt.unless (p:=validS s x y) (enters_mk Tryz.func139 (by kernel_rfl) rfl) he hf fun _ w2 hb2=>?_⟩
 exact(((HB.out.up hb3).up hb1).up hb2).valid1 x y (cell_up a0 (up2 hb1 hb2)) (cell_up a1 (up2 hb1 hb2)) (cell_up a2 (up2 hb1 hb2))
set_option maxHeartbeats 1000000 in
theorem GBa.open1 (h:GBa N w b F R a s):Calls Tryz.prog 83 #[pAt b] w fun e w'=>e=.returned (.int .i64 (openE s))/\w=w':=by
 have c5:w.cell? ⟨b,5,none⟩=some (.bool s.ro):=h.buf.cell (j:=5) rfl
 have c6:w.cell? ⟨b,6,none⟩=some (.bool s.fo):=h.buf.cell (j:=6) rfl
 unfold openE
 clear h
 cases h1:s.ro<;>cases h2:s.fo<;>rw[h1] at c5<;>rw[h2] at c6
 all_goals
  go_enter Tryz.func83,Tryz.ntmps83
  go_wp2_with fail
  go_ret
  exact⟨rfl,rfl⟩
abbrev openC (b:Nat) (e:Int):Chk:=⟨83,#[pAt b],#[],e⟩
theorem GBa.open_ (h:GBa N w b F R a s):ChkAt w True (openC b (openE s)):=⟨enters_mk Tryz.func83 (by kernel_rfl) rfl,fun _ w1 hb=>(h.up hb).open1.mono fun _ _ ⟨h1,h2⟩=>⟨h1,h2▸Below.refl _ _⟩⟩
set_option maxHeartbeats 1000000 in
theorem GBa.marker1 {k0 k1:Nat} (h:GBa N w b F R a s) (id:Int) (h0:w.cell? ⟨k0,0,none⟩=some (pAt b)) (h1:w.cell? ⟨k1,0,none⟩=some (.int .i64 id)) :
  Calls Tryz.prog 174 #[pAt k0,pAt k1] w fun r w2=>r=.returned (.bool (lookM s.M id).isSome)/\Below w.heap.size w w2:=by
 have H:=qH h
 have c10:=h.cm
 clear h
 go_enter Tryz.func174,Tryz.ntmps174
 go_wp2_with fail
 have X0:∀ X:UpW w.heap.size w,X.w.cell? ⟨k0,0,none⟩=some (pAt b):=fun X=>cell_up h0 X.up
 have X1:∀ X:UpW w.heap.size w,X.w.cell? ⟨k1,0,none⟩=some (.int .i64 id):=fun X=>cell_up h1 X.up
 have X3:∀ X:UpW w.heap.size w,X.w.cell? ⟨b,10,none⟩=some (pAt a.m):=fun X=>cell_up c10 X.up
 refine wp_region_mix w.heap.size 11 [([0,1,2,3,4],5)] [6,7,8,9,10] (by kernel_rfl) (fun c d v a w h=>by cases d<;>exact h) (by kernel_rfl) ?_
 simp only[wpMix,pk_nil,pk_cons,pushAt_zero,pushAt_succ,List.drop_succ_cons,List.drop_zero]
 repeat (go_big_quiet_step (fail))
 refine wpQuiet_nil ?_
 clear X0 X1 X3 c10 h0 h1
 go_wp2_with fail
 refine((H.out.up (Below.refl _ w).drew).mat id).mono ?_
 rintro r w1 ⟨rfl,hb1⟩
 have hbw:Below w.heap.size w w1:=up2 (Below.refl _ w).drew hb1
 go_wp2_with fail
 refine thenQ_normal ⟨⟨⟨_,hbw⟩,rfl⟩,?_⟩
 repeat (go_big_quiet_step (fail))
 refine wpQuiet_nil ?_
 go_wp2_with fail
 go_ret
 exact⟨rfl,hbw⟩
set_option maxHeartbeats 1000000 in
theorem GBa.marker_ (h:GBa N w b F R a s) (id:Int):Calls Tryz.prog 97 #[pAt b,.int .i64 id] w (ChkP w True (errB 8 (lookM s.M id).isSome)):=by
 have HB:=qH h
 clear h
 obtain⟨E,hE⟩:∃ E:Int,errB 8 (lookM s.M id).isSome=E:=⟨_,rfl⟩
 rw[hE]
 have HE:=qH hE
 clear hE
 go_enter Tryz.func97,Tryz.ntmps97
 go_wp2_with fail
 have hb3:=below2 w (.cells #[pAt b] 22) (.cells #[.int .i64 id] 3)
 obtain⟨a0,a1⟩:=al2 w (pAt b) (.int .i64 id) 22 3
 generalize (w.alloc (.cells #[pAt b] 22)).alloc (.cells #[.int .i64 id] 3)=W at *
 refine(unless_ok 8 174 #[] #[pAt w.heap.size,pAt (w.heap.size+1)] W).mono ?_
 rintro r w1 ⟨rfl,hb1,he,hf⟩
 go_wp2_with fail
 go_ret
 refine⟨_,rfl,HE.out,up2 hb3 hb1,ChkAt.unless (p:=(lookM s.M id).isSome) (enters_mk Tryz.func174 (by kernel_rfl) rfl) he hf fun _ w2 hb2=>?_⟩
 exact(((HB.out.up hb3).up hb1).up hb2).marker1 id (cell_up a0 (up2 hb1 hb2)) (cell_up a1 (up2 hb1 hb2))
set_option maxRecDepth 100000 in
set_option maxHeartbeats 2000000 in
theorem GBa.partOpen1 {k0 k1 k2:Nat} (h:GBa N w b F R a s) (x y:Int) (h0:w.cell? ⟨k0,0,none⟩=some (pAt b)) (h1:w.cell? ⟨k1,0,none⟩=some (.int .i64 x)) (h2:w.cell? ⟨k2,0,none⟩=some (.int .i64 y)) :
  Calls Tryz.prog 147 #[pAt k0,pAt k1,pAt k2] w fun r w2=>r=.returned (.bool (partS s x y))/\Below w.heap.size w w2:=by
 have c5:w.cell? ⟨b,5,none⟩=some (.bool s.ro):=h.buf.cell (j:=5) rfl
 have c6:w.cell? ⟨b,6,none⟩=some (.bool s.fo):=h.buf.cell (j:=6) rfl
 have c11:=h.cp
 have H:=qH h
 have HK:=qH h0
 unfold partS
 clear h
 cases hf:s.fo with
 | true=>
   rw[hf] at c6
   go_enter Tryz.func147,Tryz.ntmps147
   go_wp2_with fail
   go_ret
   exact⟨rfl,Below.refl _ _⟩
 | false=>
   rw[hf] at c6
   rw[Bool.false_or]
   obtain⟨P,hP⟩:∃ P,P=spansP s.P x y 0:=⟨_,rfl⟩
   have HP:Hid (∀ W,Below w.heap.size w W->Calls Tryz.prog 113 #[pAt a.p,.int .i64 x,.int .i64 y] W (SpPost W P)):=qH (fun W hb=>by rw[hP];exact(H.out.up hb).pspans x y)
   rw[<-hP]
   have hPl:P.length<=1000000:=by
    have h2:(spansP s.P x y 0).length<=s.P.length:=by unfold spansP;split;exact List.length_filterMap_le _ _;simp
    have h3:=H.out.pcsOk.len
    rw[hP];omega
   clear hP
   go_enter Tryz.func147,Tryz.ntmps147
   go_wp2_with fail
   have X0:∀ X:UpW w.heap.size w,X.w.cell? ⟨k0,0,none⟩=some (pAt b):=fun X=>cell_up h0 X.up
   have X1:∀ X:UpW w.heap.size w,X.w.cell? ⟨k1,0,none⟩=some (.int .i64 x):=fun X=>cell_up h1 X.up
   have X2:∀ X:UpW w.heap.size w,X.w.cell? ⟨k2,0,none⟩=some (.int .i64 y):=fun X=>cell_up h2 X.up
   have X3:∀ X:UpW w.heap.size w,X.w.cell? ⟨b,11,none⟩=some (pAt a.p):=fun X=>cell_up c11 X.up
   refine wp_region_mix w.heap.size 9 [([0,1,2,3,4,5,8],6)] [7] (by kernel_rfl) (fun c d v a w h=>by cases d<;>exact h) (by kernel_rfl) ?_
   simp only[wpMix,pk_nil,pk_cons,pushAt_zero,pushAt_succ,List.drop_succ_cons,List.drop_zero]
   repeat (go_big_quiet_step (fail))
   refine wpQuiet_nil ?_
   clear X0 X1 X2 X3
   go_wp2_with fail
   refine(HP.out _ (Below.refl _ w).drew).mono ?_
   rintro e w1 ⟨v,M,rfl,hsp,hdat,hb1⟩
   obtain⟨A,cA,rfl,_,_,hrl⟩:=hsp.own.shape eltSpn
   have hbw:Below w.heap.size w w1:=up2 (Below.refl _ w).drew hb1
   have hMl:M.length=P.length:=by rw[<-hdat,List.length_map]
   have HD:=qH (⟨hdat,hrl,hbw,hPl,hMl⟩:_/\_/\_/\_/\_)
   clear hsp hdat hb1 hrl hPl hMl
   go_wp2_with fail
   refine thenQ_normal ⟨⟨⟨_,HD.out.2.2.1⟩,rfl⟩,?_⟩
   repeat (go_big_quiet_step (fail))
   refine wpQuiet_nil ?_
   clear hbw c5 c6 c11 h0 h1 h2
   go_wp2_with fail
   go_loopw [19] (fun va wr=>∃ i:Nat,i<=M.length/\va=.int .i64 (i:Int)/\(∀(j:Nat) (p:Pc),j<i->P[j]?=some p->lockS s p.f=false)/\Below w1.heap.size w1 wr) (fun va _=>M.length -(intOf va).toNat)
   case atStart=>exact⟨0,by omega,rfl,fun j p hj=>by omega,Below.refl _ _⟩
   case round=>
    obtain⟨i,hi,rfl,hz,hbr⟩:=hrel
    have HR:=qH (⟨hz,hbr,up2 HD.out.2.2.1 hbr⟩:_/\_/\_)
    have c5:wr.cell? ⟨b,5,none⟩=some (.bool s.ro):=(H.out.up HR.out.2.2).buf.cell (j:=5) rfl
    have k0:=cell_up HK.out HR.out.2.2
    have k0':=fun o=>cell_up k0 (below1 wr o)
    by_cases hlt:i<M.length
    ·obtain⟨x,hx⟩:∃ x,M[i]?=some x:=⟨_,List.getElem?_eq_getElem hlt⟩
     obtain⟨g,o,rfl,hg,hcg⟩:=(HD.out.2.1.up hbr).at_ eltSpn hx
     have q0:=hcg 0 _ rfl
     have q1:=hcg 1 _ rfl
     have q2:=hcg 2 _ rfl
     simp only[Nat.add_zero] at q0
     rw[<-Nat.add_assoc] at q1 q2
     have hPx:P[i]?=some x.dat:=by rw[<-HD.out.1,List.getElem?_map,hx];rfl
     have d1:(i:Int)<M.length:=by omega
     have e1:IntKind.i64.wrap ((i:Int)+1)=((i+1:Nat):Int):=by have:=HD.out.2.2.2.1;have:=HD.out.2.2.2.2;rw[IntWalk.i64_in _ (by omega)];omega
     have HX:=qH (⟨hPx,hlt⟩:_/\_)
     have HL:=qH (fun o=>locked_ok ((H.out.up HR.out.2.2).up (below1 wr o)).buf ((H.out.up HR.out.2.2).up (below1 wr o)).getAt x.f)
     cases hl:lockS s x.f with
     | true=>
       have hl':lockB (getP s.P x.f s.lock)=true:=hl
       have HL:=qH (fun o=>hl'▸HL.out o)
       have hany:(P.any fun p=>lockS s p.f)=true:=List.any_eq_true.2 ⟨x.dat,List.mem_of_getElem? hPx,hl⟩
       have HANY:=qH hany
       clear hz hbr hx hcg hPx hany hl hl' hlt hi
       go_wp2_with fail
       refine(HL.out _).mono ?_
       rintro e w2 ⟨rfl,hb2⟩
       have hb2:=up2 (below1 wr _) hb2
       go_wp2_with fail
       go_ret
       exact⟨by rw[HANY.out];rfl,up2 HR.out.2.2 hb2⟩
     | false=>
       have hl':lockB (getP s.P x.f s.lock)=false:=hl
       have HL:=qH (fun o=>hl'▸HL.out o)
       have HLF:=qH hl
       clear hz hbr hx hcg hPx hl hl' hlt hi
       go_wp2_with fail
       refine(HL.out _).mono ?_
       rintro e w2 ⟨rfl,hb2⟩
       have hb2:=up2 (below1 wr _) hb2
       go_wp2_with fail
       go_roundw
       case rel=>
        refine⟨i+1,by have:=HX.out;omega,by first|rfl|go_num,fun j p hj hp=>?_,up2 HR.out.2.1 hb2⟩
        by_cases hji:j=i
        ·subst hji
         have:=HX.out.1
         rw[hp] at this
         cases this
         exact HLF.out
        ·exact HR.out.1 j p (by omega) hp
       case measure=>have:=HX.out;simp[intOf];omega
    ·have hany:(P.any fun p=>lockS s p.f)=false:=by
      rw[List.any_eq_false]
      intro p hp
      obtain⟨j,hj⟩:=List.getElem?_of_mem hp
      have hjl:=(List.getElem?_eq_some_iff.1 hj).1
      rw[hz j p (by have:=HD.out.2.2.2.2;omega) hj];simp
     have HANY:=qH hany
     obtain rfl:i=M.length:=by omega
     clear hz hbr hany hlt hi
     cases hro:s.ro with
     | true=>
       rw[hro] at c5
       have HRO:=qH hro
       clear hro
       go_wp2_with fail
       go_ret
       exact⟨by rw[HANY.out,HRO.out];rfl,HR.out.2.2⟩
     | false=>
       rw[hro] at c5
       have HRO:=qH hro
       clear hro
       go_wp2_with fail
       go_ret
       exact⟨by rw[HANY.out,HRO.out];rfl,HR.out.2.2⟩
set_option maxHeartbeats 1000000 in
theorem GBa.partOpen_ (h:GBa N w b F R a s) (x y:Int):Calls Tryz.prog 77 #[pAt b,.int .i64 x,.int .i64 y] w (ChkP w True (errB 14 (partS s x y))):=by
 have HB:=qH h
 clear h
 obtain⟨E,hE⟩:∃ E:Int,errB 14 (partS s x y)=E:=⟨_,rfl⟩
 rw[hE]
 have HE:=qH hE
 clear hE
 go_enter Tryz.func77,Tryz.ntmps77
 go_wp2_with fail
 have hb3:=below3 w (.cells #[pAt b] 22) (.cells #[.int .i64 x] 3) (.cells #[.int .i64 y] 3)
 obtain⟨a0,a1,a2⟩:=al3 w (pAt b) (.int .i64 x) (.int .i64 y) 22 3 3
 generalize ((w.alloc (.cells #[pAt b] 22)).alloc (.cells #[.int .i64 x] 3)).alloc (.cells #[.int .i64 y] 3)=W at *
 refine(unless_ok 14 147 #[] #[pAt w.heap.size,pAt (w.heap.size+1),pAt (w.heap.size+2)] W).mono ?_
 rintro r w1 ⟨rfl,hb1,he,hf⟩
 go_wp2_with fail
 go_ret
 refine⟨_,rfl,HE.out,up2 hb3 hb1,ChkAt.unless (p:=partS s x y) (enters_mk Tryz.func147 (by kernel_rfl) rfl) he hf fun _ w2 hb2=>?_⟩
 exact(((HB.out.up hb3).up hb1).up hb2).partOpen1 x y (cell_up a0 (up2 hb1 hb2)) (cell_up a1 (up2 hb1 hb2)) (cell_up a2 (up2 hb1 hb2))
end
end Go.Proofs.YtkpoodjhjfmfjaaGreatDoor
namespace Go.Proofs.YtkpoodjhjfmfjaaGreatDoor
open Go.RowKit Go.Lib
open Ovs (PropE encP eltP)
theorem RSl.arr {α:Type} {enc:α->List Value} {w:World} {g:Nat} {zs:List α} {T:TypeId} {C:Array Value} (hg:w.heap[g]?=some (.cells C T)) (he:C.toList=zs.flatMap enc):RSl enc w (some ⟨g,0,none⟩) zs:=fun _=>by
 refine⟨g,0,rfl,(Array.getElem?_eq_some_iff.1 hg).1,fun j u hj=>?_⟩
 have e:C[j]?=some u:=by rw[<-Array.getElem?_toList,he];exact hj
 simp[World.cell?,hg,e]
theorem firstE2 (c d:Chk):firstE [c,d]=if c.e=0 then d.e else c.e:=by
 simp only[firstE];repeat' split
 all_goals first|rfl|(rename_i h;exact h.symm)|omega
theorem firstE3 (c d e:Chk):firstE [c,d,e]=if c.e=0 then (if d.e=0 then e.e else d.e) else c.e:=by
 simp only[firstE];repeat' split
 all_goals first|rfl|(rename_i h;exact h.symm)|omega
def andE (x y:Int):Int:=if x=0 then y else x
theorem errB0 {e:Int} {p:Bool} (he:e≠0) (h:errB e p=0):p=true:=by unfold errB at h;split at h;assumption;exact absurd h he
theorem reachS_iff {s:St} {x y:Int}:reachS s x y=true ↔ (s.lo:Int)<=x/\x<=y/\y<=(s.hi:Int):=by unfold reachS;simp[and_assoc]
theorem validS_iff {s:St} {x y:Int}:validS s x y=true ↔ 1<=x/\x<=y/\y<=s.cs.length+1:=by unfold validS;simp[and_assoc]
theorem reach0 {s:St} {x y:Int} (h:errB 3 (reachS s x y)=0):(s.lo:Int)<=x/\x<=y/\y<=(s.hi:Int):=reachS_iff.1 (errB0 (by omega) h)
theorem valid0 {s:St} {x y:Int} (h:errB 3 (validS s x y)=0):1<=x/\x<=y/\y<=s.cs.length+1:=validS_iff.1 (errB0 (by omega) h)
theorem fits0 {tx:ByteArray} {n:Nat} {less:Int} (h:fitsE tx n less=0):(charsD tx.data.toList).isSome=true/\(n:Int) - less+((chrs tx).length:Int)<=65536:=by
 unfold fitsE at h
 split at h
 ·rename_i hv
  rw[vld_chars] at hv
  rw[rlenG_chars hv] at h
  split at h
  ·omega
  ·exact⟨hv,by omega⟩
 ·omega
theorem andE0 {x y:Int} (h:andE x y=0):x=0/\y=0:=by unfold andE at h;split at h;exact⟨by assumption,h⟩;exact absurd h (by assumption)
def standS (s:St) (x:Nat):St:={ s with pt:=min (max x s.lo) s.hi }
def isE (s:St) (tx:ByteArray):Int:=andE (errB 3 (reachS s s.pt s.pt)) (andE (errB 14 (gapS s s.pt)) (fitsE tx s.cs.length 0))
def isS (s:St) (tx:ByteArray) (bf:Bool):St:={ putS s s.pt tx bf with pt:=s.pt+(chrs tx).length }
def plE (s:St) (x:Int) (tx:ByteArray):Int:=andE (errB 3 (reachS s x x)) (andE (errB 14 (gapS s x)) (fitsE tx s.cs.length 0))
def dlE (s:St) (x y:Int):Int:=andE (errB 3 (reachS s x y)) (errB 14 (partS s x y))
section
variable {w w' w1 : World} {N b n : Nat} {F R : Nat → Prop} {a : Adr} {s s' : St} {c : Chg}
set_option maxRecDepth 100000 in
set_option maxHeartbeats 4000000 in
theorem Put_ok (h:GBa N w b F R a s) (hB:Pos s 900000000) (x:Int) (tx:ByteArray) (hs:tx.size<=262144) :
  Calls Tryz.prog 26 #[pAt b,.int .i64 x,.string tx] w fun r w'=>r=.returned (.int .i64 (plE s x tx))/\To N w b F R (if plE s x tx=0 then putS s x.toNat tx false else s) w':=by
 have HX:=qH (hs)
 have HB:=qH hB
 have H:=qH h
 obtain⟨E1,hE1⟩:∃ z:Int,z=errB 3 (reachS s x x):=⟨_,rfl⟩
 obtain⟨E2,hE2⟩:∃ z:Int,z=errB 14 (gapS s x):=⟨_,rfl⟩
 obtain⟨E3,hE3⟩:∃ z:Int,z=fitsE tx s.cs.length 0:=⟨_,rfl⟩
 obtain⟨E,hE⟩:∃ z:Int,z=plE s x tx:=⟨_,rfl⟩
 rw[<-hE]
 have hPE:E=(if E1=0 then (if E2=0 then E3 else E2) else E1):=by rw[hE];unfold plE;rw[hE1,hE2,hE3];simp[andE]
 obtain⟨T2,hT2⟩:∃ z:St,z=(if E=0 then putS s x.toNat tx false else s):=⟨_,rfl⟩
 rw[<-hT2]
 have HE1:=qH hE1
 have HE2:=qH hE2
 have HE3:=qH hE3
 have HPE:=qH hPE
 have HT2:=qH hT2
 clear h hB hT2 hPE hE hE1 hE2 hE3 hs
 go_enter Tryz.func26,Tryz.ntmps26
 go_wp2_with fail
 refine H.out.none_.mono ?_
 rintro e w0 ⟨rfl,rfl⟩
 go_wp2_with fail
 refine(H.out.within_ x x).mono ?_
 rintro e w1 ⟨c1,rfl,he1,hb1,hc1⟩
 rw[<-HE1.out] at he1
 have C1:=qH (⟨he1,hc1⟩:c1.e=E1/\ChkAt w1 _ c1)
 have B1:=qH (hb1)
 clear he1 hc1 hb1
 go_wp2_with fail
 refine((H.out.up B1.out).gapOpen_ x).mono ?_
 rintro e w2 ⟨c2,rfl,he2,hb2,hc2⟩
 rw[<-HE2.out] at he2
 have C1:=qH (⟨C1.out.1,C1.out.2.up hb2⟩:c1.e=E1/\ChkAt w2 _ c1)
 have C2:=qH (⟨he2,hc2⟩:c2.e=E2/\ChkAt w2 _ c2)
 have B2:=qH (up2 B1.out hb2)
 clear he2 hc2 hb2 B1
 go_wp2_with fail
 refine((H.out.up B2.out).fits_ tx HX.out 0).mono ?_
 rintro e w3 ⟨c3,rfl,he3,hb3,hc3⟩
 rw[<-HE3.out] at he3
 have C1:=qH (⟨C1.out.1,C1.out.2.up hb3⟩:c1.e=E1/\ChkAt w3 _ c1)
 have C2:=qH (⟨C2.out.1,C2.out.2.up hb3⟩:c2.e=E2/\ChkAt w3 _ c2)
 have C3:=qH (⟨he3,hc3⟩:c3.e=E3/\ChkAt w3 _ c3)
 have B3:=qH (up2 B2.out hb3)
 clear he3 hc3 hb3 B2
 go_wp2_with fail
 have hb4:=below1 w3 (.cells #[c1.val,c2.val,c3.val] 33)
 have hR3:=RSl.arr (enc:=encK) (zs:=[c1,c2,c3]) (MapKept.heap_alloc w3 (.cells #[c1.val,c2.val,c3.val] 33)).1 rfl
 have HF:=first_any hR3 3 (by simp) (by
  intro c hc
  simp only[List.mem_cons,List.not_mem_nil,or_false] at hc
  rcases hc with rfl|rfl|rfl
  ·exact C1.out.2.en
  ·exact C2.out.2.en
  ·exact C3.out.2.en) (by
  intro i c w4 hi hz hb
  rcases i with _|_|_|i
  ·cases hi;exact C1.out.2.run trivial w4 (up2 hb4 hb)
  ·cases hi;have z1:E1=0:=C1.out.1.symm.trans (hz 0 c1 rfl (by omega));exact C2.out.2.run (by have:=reach0 (HE1.out.symm.trans z1);have:=HB.out.lo1;have:=HB.out.hi;exact⟨by omega,by omega⟩) w4 (up2 hb4 hb)
  ·cases hi;have z1:E1=0:=C1.out.1.symm.trans (hz 0 c1 rfl (by omega));have z2:E2=0:=C2.out.1.symm.trans (hz 1 c2 rfl (by omega));exact C3.out.2.run ⟨by omega,by omega⟩ w4 (up2 hb4 hb)
  ·simp at hi)
 have hfe:firstE [c1,c2,c3]=E:=by rw[firstE3,C1.out.1,C2.out.1,C3.out.1];exact HPE.out.symm
 rw[hfe] at HF
 have HF:=qH HF
 have B4:=qH (up2 B3.out hb4)
 clear hR3 hb4 hfe C1 C2 C3 B3
 refine HF.out.mono ?_
 rintro e w5 ⟨rfl,hb5⟩
 have B5:=qH (up2 B4.out hb5)
 clear hb5 B4 HF
 by_cases hE:E=0
 ·have HE0:=qH hE
  have hz:=HPE.out
  rw[hE] at hz
  have hz1:E1=0:=by
   by_cases q:E1=0
   ·exact q
   ·rw[if_neg q] at hz;exact hz.symm
  rw[if_pos hz1] at hz
  have hz2:E2=0:=by
   by_cases q:E2=0
   ·exact q
   ·rw[if_neg q] at hz;exact hz.symm
  rw[if_pos hz2] at hz
  have hz3:E3=0:=hz.symm
  clear hz
  have f1:=reach0 (HE1.out.symm.trans hz1)
  have f3:=fits0 (HE3.out.symm.trans hz3)
  have l1:=HB.out.lo1
  have l2:=HB.out.hi
  obtain⟨n,hn⟩:∃ n:Nat,x=n:=⟨x.toNat,by omega⟩
  have HA:=qH (put_ok (H.out.up B5.out) (HB.out.mono (by omega)) n (by omega) (by omega) tx HX.out f3.1 false)
  rw[<-hn] at HA
  have HNN:=qH (show x.toNat=n by omega)
  clear f1 f3 l1 l2 hn hz1 hz2 hz3
  rw[hE]
  go_wp2_with fail
  refine HA.out.mono ?_
  rintro e w6 ⟨rfl,ht⟩
  have HP:=qH (ToA.before H.out B5.out ht).to
  rw[<-HNN.out] at HP
  clear ht
  go_wp2_with fail
  go_ret
  refine⟨by rw[HE0.out];rfl,?_⟩
  rw[HT2.out,if_pos HE0.out]
  exact HP.out
 ·have e1:((E:Int) == 0)=false:=by simpa using hE
  have e2:(E=0)=False:=eq_false hE
  have HEN:=qH hE
  clear hE
  go_wp2_with fail
  go_ret
  refine⟨rfl,?_⟩
  rw[HT2.out,if_neg HEN.out]
  exact(ToA.of_below H.out B5.out).to
set_option maxRecDepth 100000 in
set_option maxHeartbeats 4000000 in
theorem Delete_ok (h:GBa N w b F R a s) (hB:Pos s 900000000) (x y:Int) :
  Calls Tryz.prog 18 #[pAt b,.int .i64 x,.int .i64 y] w fun r w'=>r=.returned (.int .i64 (dlE s x y))/\To N w b F R (if dlE s x y=0 then takeS s x.toNat y.toNat else s) w':=by
 have HX:=qH (trivial)
 have HB:=qH hB
 have H:=qH h
 obtain⟨E1,hE1⟩:∃ z:Int,z=errB 3 (reachS s x y):=⟨_,rfl⟩
 obtain⟨E2,hE2⟩:∃ z:Int,z=errB 14 (partS s x y):=⟨_,rfl⟩
 obtain⟨E,hE⟩:∃ z:Int,z=dlE s x y:=⟨_,rfl⟩
 rw[<-hE]
 have hPE:E=(if E1=0 then E2 else E1):=by rw[hE];unfold dlE;rw[hE1,hE2];simp[andE]
 obtain⟨T2,hT2⟩:∃ z:St,z=(if E=0 then takeS s x.toNat y.toNat else s):=⟨_,rfl⟩
 rw[<-hT2]
 have HE1:=qH hE1
 have HE2:=qH hE2
 have HPE:=qH hPE
 have HT2:=qH hT2
 clear h hB hT2 hPE hE hE1 hE2
 go_enter Tryz.func18,Tryz.ntmps18
 go_wp2_with fail
 refine H.out.none_.mono ?_
 rintro e w0 ⟨rfl,rfl⟩
 go_wp2_with fail
 refine(H.out.within_ x y).mono ?_
 rintro e w1 ⟨c1,rfl,he1,hb1,hc1⟩
 rw[<-HE1.out] at he1
 have C1:=qH (⟨he1,hc1⟩:c1.e=E1/\ChkAt w1 _ c1)
 have B1:=qH (hb1)
 clear he1 hc1 hb1
 go_wp2_with fail
 refine((H.out.up B1.out).partOpen_ x y).mono ?_
 rintro e w2 ⟨c2,rfl,he2,hb2,hc2⟩
 rw[<-HE2.out] at he2
 have C1:=qH (⟨C1.out.1,C1.out.2.up hb2⟩:c1.e=E1/\ChkAt w2 _ c1)
 have C2:=qH (⟨he2,hc2⟩:c2.e=E2/\ChkAt w2 _ c2)
 have B2:=qH (up2 B1.out hb2)
 clear he2 hc2 hb2 B1
 go_wp2_with fail
 have hb4:=below1 w2 (.cells #[c1.val,c2.val] 33)
 have hR3:=RSl.arr (enc:=encK) (zs:=[c1,c2]) (MapKept.heap_alloc w2 (.cells #[c1.val,c2.val] 33)).1 rfl
 have HF:=first_any hR3 2 (by simp) (by
  intro c hc
  simp only[List.mem_cons,List.not_mem_nil,or_false] at hc
  rcases hc with rfl|rfl
  ·exact C1.out.2.en
  ·exact C2.out.2.en) (by
  intro i c w4 hi hz hb
  rcases i with _|_|i
  ·cases hi;exact C1.out.2.run trivial w4 (up2 hb4 hb)
  ·cases hi;exact C2.out.2.run trivial w4 (up2 hb4 hb)
  ·simp at hi)
 have hfe:firstE [c1,c2]=E:=by rw[firstE2,C1.out.1,C2.out.1];exact HPE.out.symm
 rw[hfe] at HF
 have HF:=qH HF
 have B4:=qH (up2 B2.out hb4)
 clear hR3 hb4 hfe C1 C2 B2
 refine HF.out.mono ?_
 rintro e w5 ⟨rfl,hb5⟩
 have B5:=qH (up2 B4.out hb5)
 clear hb5 B4 HF
 by_cases hE:E=0
 ·have HE0:=qH hE
  have hz:=HPE.out
  rw[hE] at hz
  have hz1:E1=0:=by
   by_cases q:E1=0
   ·exact q
   ·rw[if_neg q] at hz;exact hz.symm
  rw[if_pos hz1] at hz
  have hz2:E2=0:=hz.symm
  clear hz
  have f1:=reach0 (HE1.out.symm.trans hz1)
  have l1:=HB.out.lo1
  have l2:=HB.out.hi
  obtain⟨n,hn⟩:∃ n:Nat,x=n:=⟨x.toNat,by omega⟩
  obtain⟨m,hm⟩:∃ n:Nat,y=n:=⟨y.toNat,by omega⟩
  have HA:=qH (take_ok (H.out.up B5.out) (HB.out.mono (by omega)) n m (by omega) (by omega) (by omega))
  rw[<-hn,<-hm] at HA
  have HNN:=qH (⟨show x.toNat=n by omega,show y.toNat=m by omega⟩:_/\_)
  clear f1 l1 l2 hn hm hz1 hz2
  rw[hE]
  go_wp2_with fail
  refine HA.out.mono ?_
  rintro e w6 ⟨rfl,ht⟩
  have HP:=qH (ToA.before H.out B5.out ht).to
  rw[<-HNN.out.1,<-HNN.out.2] at HP
  clear ht
  go_wp2_with fail
  go_ret
  refine⟨by rw[HE0.out];rfl,?_⟩
  rw[HT2.out,if_pos HE0.out]
  exact HP.out
 ·have e1:((E:Int) == 0)=false:=by simpa using hE
  have e2:(E=0)=False:=eq_false hE
  have HEN:=qH hE
  clear hE
  go_wp2_with fail
  go_ret
  refine⟨rfl,?_⟩
  rw[HT2.out,if_neg HEN.out]
  exact(ToA.of_below H.out B5.out).to
set_option maxRecDepth 100000 in
set_option maxHeartbeats 4000000 in
theorem Goto_ok (h:GBa N w b F R a s) (hB:Pos s 900000000) (x:Int) :
  Calls Tryz.prog 47 #[pAt b,.int .i64 x] w fun r w'=>r=.returned (.int .i64 (errB 3 (reachS s x x)))/\To N w b F R (if errB 3 (reachS s x x)=0 then { s with pt:=x.toNat } else s) w':=by
 have HX:=qH (trivial)
 have HB:=qH hB
 have H:=qH h
 obtain⟨E1,hE1⟩:∃ z:Int,z=0:=⟨_,rfl⟩
 obtain⟨E2,hE2⟩:∃ z:Int,z=errB 3 (reachS s x x):=⟨_,rfl⟩
 obtain⟨E,hE⟩:∃ z:Int,z=errB 3 (reachS s x x):=⟨_,rfl⟩
 rw[<-hE]
 have hPE:E=(if E1=0 then E2 else E1):=by rw[hE,hE1,hE2];simp
 obtain⟨T2,hT2⟩:∃ z:St,z=(if E=0 then { s with pt:=x.toNat } else s):=⟨_,rfl⟩
 rw[<-hT2]
 have HE1:=qH hE1
 have HE2:=qH hE2
 have HPE:=qH hPE
 have HT2:=qH hT2
 clear h hB hT2 hPE hE hE1 hE2
 go_enter Tryz.func47,Tryz.ntmps47
 go_wp2_with fail
 refine(H.out.within_ x x).mono ?_
 rintro e w2 ⟨c2,rfl,he2,hb2,hc2⟩
 rw[<-HE2.out] at he2
 have C2:=qH (⟨he2,hc2⟩:c2.e=E2/\ChkAt w2 _ c2)
 have B2:=qH (hb2)
 clear he2 hc2 hb2
 go_wp2_with fail
 have hb4:=below1 w2 (.cells #[(madeC b).val,c2.val] 33)
 have hR3:=RSl.arr (enc:=encK) (zs:=[(madeC b),c2]) (MapKept.heap_alloc w2 (.cells #[(madeC b).val,c2.val] 33)).1 rfl
 have HF:=first_any hR3 2 (by simp) (by
  intro c hc
  simp only[List.mem_cons,List.not_mem_nil,or_false] at hc
  rcases hc with rfl|rfl
  ·exact(H.out.up B2.out).made_.en
  ·exact C2.out.2.en) (by
  intro i c w4 hi hz hb
  rcases i with _|_|i
  ·cases hi;exact(H.out.up B2.out).made_.run trivial w4 (up2 hb4 hb)
  ·cases hi;exact C2.out.2.run trivial w4 (up2 hb4 hb)
  ·simp at hi)
 have hfe:firstE [(madeC b),c2]=E:=by rw[firstE2,show(madeC b).e=E1 from HE1.out.symm,C2.out.1];exact HPE.out.symm
 rw[hfe] at HF
 have HF:=qH HF
 have B4:=qH (up2 B2.out hb4)
 clear hR3 hb4 hfe C2 B2
 refine HF.out.mono ?_
 rintro e w5 ⟨rfl,hb5⟩
 have B5:=qH (up2 B4.out hb5)
 clear hb5 B4 HF
 by_cases hE:E=0
 ·have HE0:=qH hE
  have hz:=HPE.out
  rw[hE] at hz
  have hz1:E1=0:=by
   by_cases q:E1=0
   ·exact q
   ·rw[if_neg q] at hz;exact hz.symm
  rw[if_pos hz1] at hz
  have hz2:E2=0:=hz.symm
  clear hz
  have f2:=reach0 (HE2.out.symm.trans hz2)
  have l1:=HB.out.lo1
  obtain⟨n,hn⟩:∃ n:Nat,x=n:=⟨x.toNat,by omega⟩
  have q0:=(H.out.up B5.out).buf.cell (j:=0) rfl
  have z0:=(H.out.up B5.out).buf.fz 0
  have HP:=qH (ToA.before H.out B5.out ((H.out.up B5.out).store { s with pt:=x.toNat } (j:=0) (by omega) (.int .i64 x) ⟨rfl,rfl,rfl,rfl,rfl,rfl,rfl,rfl,rfl,rfl⟩ (by rw[hn,Int.toNat_natCast];rfl))).to
  clear f2 l1 hn hz1 hz2
  rw[hE]
  go_wp2_with fail
  go_wp2_with fail
  go_ret
  refine⟨by rw[HE0.out];rfl,?_⟩
  rw[HT2.out,if_pos HE0.out]
  exact HP.out
 ·have e1:((E:Int) == 0)=false:=by simpa using hE
  have e2:(E=0)=False:=eq_false hE
  have HEN:=qH hE
  clear hE
  go_wp2_with fail
  go_ret
  refine⟨rfl,?_⟩
  rw[HT2.out,if_neg HEN.out]
  exact(ToA.of_below H.out B5.out).to
end
end Go.Proofs.YtkpoodjhjfmfjaaGreatDoor
namespace Go.Proofs.YtkpoodjhjfmfjaaGreatDoor
open Go.RowKit Go.Lib
open Ovs (PropE encP eltP)
theorem wrap_id {z:Int} (h:-1000000000000<=z/\z<=1000000000000):wrap64 z=z:=by unfold wrap64;omega
def repEr (s:St) (x y:Int) (tx:ByteArray):Int:=andE (errB 3 (reachS s x y)) (andE (errB 14 (if x=y then gapS s x else partS s x y)) (fitsE tx s.cs.length (wrap64 (y - x))))
def repSt (s:St) (x y:Int) (tx:ByteArray):St:=putS (takeS s x.toNat y.toNat) x.toNat tx false
def narS (s:St) (x y:Int):St:=standS { s with lo:=x.toNat,hi:=y.toNat } s.pt
def mmE (s:St) (id x:Int):Int:=andE (errB 8 (lookM s.M id).isSome) (errB 3 (validS s x x))
def prE (s:St) (x y:Int):Int:=andE (errB 3 (validS s x y)) (openE s)
section
variable {w w' w1 : World} {N b n : Nat} {F R : Nat → Prop} {a : Adr} {s s' : St} {c : Chg}
set_option maxHeartbeats 1000000 in
theorem GBa.stand (h:GBa N w b F R a s) (x:Nat):Calls Tryz.prog 96 #[pAt b,.int .i64 x] w fun r w'=>r=.returned (.tuple #[])/\ToA N w b F R a (standS s x) w':=by
 have c0:=h.buf.cell (j:=0) rfl
 have c1:w.cell? ⟨b,1,none⟩=some (.int .i64 (s.lo:Int)):=h.buf.cell (j:=1) rfl
 have c2:w.cell? ⟨b,2,none⟩=some (.int .i64 (s.hi:Int)):=h.buf.cell (j:=2) rfl
 have f0:=h.buf.fz 0
 have e1:max (x:Int) (s.lo:Int)=((max x s.lo:Nat):Int):=by omega
 have e2:min ((max x s.lo:Nat):Int) (s.hi:Int)=((min (max x s.lo) s.hi:Nat):Int):=by omega
 have H:=qH h
 clear h
 go_enter Tryz.func96,Tryz.ntmps96
 go_region
 go_wp2_with fail
 go_end0
 have hst:=H.out.store (standS s x) (j:=0) (by omega) (.int .i64 ((min (max x s.lo) s.hi:Nat):Int)) ⟨rfl,rfl,rfl,rfl,rfl,rfl,rfl,rfl,rfl,rfl⟩ rfl
 exact⟨rfl,hst.below (Below.refl _ _).drew⟩
set_option maxRecDepth 100000 in
set_option maxHeartbeats 4000000 in
theorem Replace_ne (h:GBa N w b F R a s) (hB:Pos s 900000000) (x y:Int) (tx:ByteArray) (hs:tx.size<=262144) (hxy:¬ x=y) :
  Calls Tryz.prog 27 #[pAt b,.int .i64 x,.int .i64 y,.string tx] w fun r w'=>r=.returned (.int .i64 (repEr s x y tx))/\To N w b F R (if repEr s x y tx=0 then repSt s x y tx else s) w':=by
 have HX:=qH (hs)
 have HB:=qH hB
 have H:=qH h
 obtain⟨E1,hE1⟩:∃ z:Int,z=errB 3 (reachS s x y):=⟨_,rfl⟩
 obtain⟨E2,hE2⟩:∃ z:Int,z=errB 14 (partS s x y):=⟨_,rfl⟩
 obtain⟨E3,hE3⟩:∃ z:Int,z=fitsE tx s.cs.length ((wrap64 (y - x))):=⟨_,rfl⟩
 obtain⟨E,hE⟩:∃ z:Int,z=repEr s x y tx:=⟨_,rfl⟩
 rw[<-hE]
 have hPE:E=(if E1=0 then (if E2=0 then E3 else E2) else E1):=by rw[hE];unfold repEr;rw[if_neg hxy];rw[hE1,hE2,hE3];simp[andE]
 obtain⟨T2,hT2⟩:∃ z:St,z=(if E=0 then repSt s x y tx else s):=⟨_,rfl⟩
 rw[<-hT2]
 have HE1:=qH hE1
 have HE2:=qH hE2
 have HE3:=qH hE3
 have HPE:=qH hPE
 have HT2:=qH hT2
 clear h hB hT2 hPE hE hE1 hE2 hE3 hs
 have d0:((x:Int) ==(y:Int))=false:=by simpa using hxy
 have d0':(x=y)=False:=eq_false hxy
 clear hxy
 go_enter Tryz.func27,Tryz.ntmps27
 go_wp2_with fail
 refine H.out.none_.mono ?_
 rintro e w0 ⟨rfl,rfl⟩
 go_wp2_with fail
 refine(H.out.partOpen_ x y).mono ?_
 rintro e w2 ⟨c2,rfl,he2,hb2,hc2⟩
 rw[<-HE2.out] at he2
 have C2:=qH (⟨he2,hc2⟩:c2.e=E2/\ChkAt w2 _ c2)
 have B2:=qH (hb2)
 clear he2 hc2 hb2
 go_wp2_with fail
 refine((H.out.up B2.out).within_ x y).mono ?_
 rintro e w1 ⟨c1,rfl,he1,hb1,hc1⟩
 rw[<-HE1.out] at he1
 have C2:=qH (⟨C2.out.1,C2.out.2.up hb1⟩:c2.e=E2/\ChkAt w1 _ c2)
 have C1:=qH (⟨he1,hc1⟩:c1.e=E1/\ChkAt w1 _ c1)
 have B1:=qH (up2 B2.out hb1)
 clear he1 hc1 hb1 B2
 go_wp2_with fail
 refine((H.out.up B1.out).fits_ tx HX.out (wrap64 (y - x))).mono ?_
 rintro e w3 ⟨c3,rfl,he3,hb3,hc3⟩
 rw[<-HE3.out] at he3
 have C2:=qH (⟨C2.out.1,C2.out.2.up hb3⟩:c2.e=E2/\ChkAt w3 _ c2)
 have C1:=qH (⟨C1.out.1,C1.out.2.up hb3⟩:c1.e=E1/\ChkAt w3 _ c1)
 have C3:=qH (⟨he3,hc3⟩:c3.e=E3/\ChkAt w3 _ c3)
 have B3:=qH (up2 B1.out hb3)
 clear he3 hc3 hb3 B1
 go_wp2_with fail
 have hb4:=below1 w3 (.cells #[c1.val,c2.val,c3.val] 33)
 have hR3:=RSl.arr (enc:=encK) (zs:=[c1,c2,c3]) (MapKept.heap_alloc w3 (.cells #[c1.val,c2.val,c3.val] 33)).1 rfl
 have HF:=first_any hR3 3 (by simp) (by
  intro c hc
  simp only[List.mem_cons,List.not_mem_nil,or_false] at hc
  rcases hc with rfl|rfl|rfl
  ·exact C1.out.2.en
  ·exact C2.out.2.en
  ·exact C3.out.2.en) (by
  intro i c w4 hi hz hb
  rcases i with _|_|_|i
  ·cases hi;exact C1.out.2.run trivial w4 (up2 hb4 hb)
  ·cases hi;exact C2.out.2.run trivial w4 (up2 hb4 hb)
  ·cases hi;have z1:E1=0:=C1.out.1.symm.trans (hz 0 c1 rfl (by omega));have z2:E2=0:=C2.out.1.symm.trans (hz 1 c2 rfl (by omega));exact C3.out.2.run (by have:=reach0 (HE1.out.symm.trans z1);have:=HB.out.lo1;have:=HB.out.hi;rw[wrap_id (by omega)];exact⟨by omega,by omega⟩) w4 (up2 hb4 hb)
  ·simp at hi)
 have hfe:firstE [c1,c2,c3]=E:=by rw[firstE3,C1.out.1,C2.out.1,C3.out.1];exact HPE.out.symm
 rw[hfe] at HF
 have HF:=qH HF
 have B4:=qH (up2 B3.out hb4)
 clear hR3 hb4 hfe C2 C1 C3 B3
 refine HF.out.mono ?_
 rintro e w5 ⟨rfl,hb5⟩
 have B5:=qH (up2 B4.out hb5)
 clear hb5 B4 HF
 by_cases hE:E=0
 ·have HE0:=qH hE
  have hz:=HPE.out
  rw[hE] at hz
  have hz1:E1=0:=by
   by_cases q:E1=0
   ·exact q
   ·rw[if_neg q] at hz;exact hz.symm
  rw[if_pos hz1] at hz
  have hz2:E2=0:=by
   by_cases q:E2=0
   ·exact q
   ·rw[if_neg q] at hz;exact hz.symm
  rw[if_pos hz2] at hz
  have hz3:E3=0:=hz.symm
  clear hz
  have f1:=reach0 (HE1.out.symm.trans hz1)
  have f3:=fits0 (HE3.out.symm.trans hz3)
  have l1:=HB.out.lo1
  have l2:=HB.out.hi
  obtain⟨n,hn⟩:∃ n:Nat,x=n:=⟨x.toNat,by omega⟩
  obtain⟨m,hm⟩:∃ n:Nat,y=n:=⟨y.toNat,by omega⟩
  have HA:=qH (take_ok (H.out.up B5.out) (HB.out.mono (by omega)) n m (by omega) (by omega) (by omega))
  have HP2:=qH ((HB.out.take n m (by omega) (by omega)).mono (show 900000000+1<=1000000000 by omega))
  have HNN:=qH (⟨show x.toNat=n by omega,show y.toNat=m by omega,show 1<=n by omega,show n<=1000000000 by omega,f3.1,hn,hm⟩:_/\_/\_/\_/\_/\x=(n:Int)/\y=(m:Int))
  have HA:=qH (show Calls Tryz.prog 78 #[pAt b,.int .i64 x,.int .i64 y] w5 fun r w'=>r=.returned (.tuple #[])/\ToA N w5 b F R a (takeS s n m) w' from hn▸hm▸HA.out)
  clear f1 f3 l1 l2 hn hm hz1 hz2 hz3
  rw[hE]
  go_wp2_with fail
  refine HA.out.mono ?_
  rintro e w6 ⟨rfl,ht⟩
  have H6:=qH (ToA.before H.out B5.out ht)
  have HB6:=qH (show Calls Tryz.prog 91 #[pAt b,.int .i64 x,.string tx,.bool false] w6 fun r w'=>r=.returned (.tuple #[])/\ToA N w6 b (grow F w.heap.size) (grow R w.heap.size) a (putS (takeS s n m) n tx false) w' from HNN.out.2.2.2.2.2.1▸put_ok H6.out.gb HP2.out n HNN.out.2.2.1 HNN.out.2.2.2.1 tx HX.out HNN.out.2.2.2.2.1 false)
  clear ht
  go_wp2_with fail
  refine HB6.out.mono ?_
  rintro e w7 ⟨rfl,ht⟩
  have HP:=qH (show To N w b F R (repSt s x y tx) w7 by unfold repSt;rw[HNN.out.1,HNN.out.2.1];exact(H6.out.trans ht).to)
  clear ht
  go_wp2_with fail
  go_ret
  refine⟨by rw[HE0.out];rfl,?_⟩
  rw[HT2.out,if_pos HE0.out]
  exact HP.out
 ·have e1:((E:Int) == 0)=false:=by simpa using hE
  have e2:(E=0)=False:=eq_false hE
  have HEN:=qH hE
  clear hE
  go_wp2_with fail
  go_ret
  refine⟨rfl,?_⟩
  rw[HT2.out,if_neg HEN.out]
  exact(ToA.of_below H.out B5.out).to
set_option maxRecDepth 100000 in
set_option maxHeartbeats 4000000 in
theorem Replace_eq (h:GBa N w b F R a s) (hB:Pos s 900000000) (x:Int) (tx:ByteArray) (hs:tx.size<=262144) :
  Calls Tryz.prog 27 #[pAt b,.int .i64 x,.int .i64 x,.string tx] w fun r w'=>r=.returned (.int .i64 (repEr s x x tx))/\To N w b F R (if repEr s x x tx=0 then repSt s x x tx else s) w':=by
 have HX:=qH (hs)
 have HB:=qH hB
 have H:=qH h
 obtain⟨E1,hE1⟩:∃ z:Int,z=errB 3 (reachS s x x):=⟨_,rfl⟩
 obtain⟨E2,hE2⟩:∃ z:Int,z=errB 14 (gapS s x):=⟨_,rfl⟩
 obtain⟨E3,hE3⟩:∃ z:Int,z=fitsE tx s.cs.length 0:=⟨_,rfl⟩
 obtain⟨E,hE⟩:∃ z:Int,z=repEr s x x tx:=⟨_,rfl⟩
 rw[<-hE]
 have hPE:E=(if E1=0 then (if E2=0 then E3 else E2) else E1):=by rw[hE];unfold repEr;rw[if_pos rfl,show wrap64 (x - x)=0 by rw[Int.sub_self];exact wrap_id (by omega)];rw[hE1,hE2,hE3];simp[andE]
 obtain⟨T2,hT2⟩:∃ z:St,z=(if E=0 then repSt s x x tx else s):=⟨_,rfl⟩
 rw[<-hT2]
 have HE1:=qH hE1
 have HE2:=qH hE2
 have HE3:=qH hE3
 have HPE:=qH hPE
 have HT2:=qH hT2
 clear h hB hT2 hPE hE hE1 hE2 hE3 hs
 go_enter Tryz.func27,Tryz.ntmps27
 go_wp2_with fail
 refine H.out.none_.mono ?_
 rintro e w0 ⟨rfl,rfl⟩
 go_wp2_with fail
 refine(H.out.partOpen_ x x).mono ?_
 rintro e wp ⟨cp,rfl,_,hbp,_⟩
 have BP:=qH hbp
 clear hbp
 go_wp2_with fail
 refine((H.out.up BP.out).gapOpen_ x).mono ?_
 rintro e w2 ⟨c2,rfl,he2,hb2,hc2⟩
 rw[<-HE2.out] at he2
 have C2:=qH (⟨he2,hc2⟩:c2.e=E2/\ChkAt w2 _ c2)
 have B2:=qH (up2 BP.out hb2)
 clear he2 hc2 hb2 BP
 go_wp2_with fail
 refine((H.out.up B2.out).within_ x x).mono ?_
 rintro e w1 ⟨c1,rfl,he1,hb1,hc1⟩
 rw[<-HE1.out] at he1
 have C2:=qH (⟨C2.out.1,C2.out.2.up hb1⟩:c2.e=E2/\ChkAt w1 _ c2)
 have C1:=qH (⟨he1,hc1⟩:c1.e=E1/\ChkAt w1 _ c1)
 have B1:=qH (up2 B2.out hb1)
 clear he1 hc1 hb1 B2
 go_wp2_with fail
 refine((H.out.up B1.out).fits_ tx HX.out 0).mono ?_
 rintro e w3 ⟨c3,rfl,he3,hb3,hc3⟩
 rw[<-HE3.out] at he3
 have C2:=qH (⟨C2.out.1,C2.out.2.up hb3⟩:c2.e=E2/\ChkAt w3 _ c2)
 have C1:=qH (⟨C1.out.1,C1.out.2.up hb3⟩:c1.e=E1/\ChkAt w3 _ c1)
 have C3:=qH (⟨he3,hc3⟩:c3.e=E3/\ChkAt w3 _ c3)
 have B3:=qH (up2 B1.out hb3)
 clear he3 hc3 hb3 B1
 go_wp2_with fail
 have hb4:=below1 w3 (.cells #[c1.val,c2.val,c3.val] 33)
 have hR3:=RSl.arr (enc:=encK) (zs:=[c1,c2,c3]) (MapKept.heap_alloc w3 (.cells #[c1.val,c2.val,c3.val] 33)).1 rfl
 have HF:=first_any hR3 3 (by simp) (by
  intro c hc
  simp only[List.mem_cons,List.not_mem_nil,or_false] at hc
  rcases hc with rfl|rfl|rfl
  ·exact C1.out.2.en
  ·exact C2.out.2.en
  ·exact C3.out.2.en) (by
  intro i c w4 hi hz hb
  rcases i with _|_|_|i
  ·cases hi;exact C1.out.2.run trivial w4 (up2 hb4 hb)
  ·cases hi;have z1:E1=0:=C1.out.1.symm.trans (hz 0 c1 rfl (by omega));exact C2.out.2.run (by have:=reach0 (HE1.out.symm.trans z1);have:=HB.out.lo1;have:=HB.out.hi;exact⟨by omega,by omega⟩) w4 (up2 hb4 hb)
  ·cases hi;have z1:E1=0:=C1.out.1.symm.trans (hz 0 c1 rfl (by omega));have z2:E2=0:=C2.out.1.symm.trans (hz 1 c2 rfl (by omega));exact C3.out.2.run ⟨by omega,by omega⟩ w4 (up2 hb4 hb)
  ·simp at hi)
 have hfe:firstE [c1,c2,c3]=E:=by rw[firstE3,C1.out.1,C2.out.1,C3.out.1];exact HPE.out.symm
 rw[hfe] at HF
 have HF:=qH HF
 have B4:=qH (up2 B3.out hb4)
 clear hR3 hb4 hfe C2 C1 C3 B3
 refine HF.out.mono ?_
 rintro e w5 ⟨rfl,hb5⟩
 have B5:=qH (up2 B4.out hb5)
 clear hb5 B4 HF
 by_cases hE:E=0
 ·have HE0:=qH hE
  have hz:=HPE.out
  rw[hE] at hz
  have hz1:E1=0:=by
   by_cases q:E1=0
   ·exact q
   ·rw[if_neg q] at hz;exact hz.symm
  rw[if_pos hz1] at hz
  have hz2:E2=0:=by
   by_cases q:E2=0
   ·exact q
   ·rw[if_neg q] at hz;exact hz.symm
  rw[if_pos hz2] at hz
  have hz3:E3=0:=hz.symm
  clear hz
  have f1:=reach0 (HE1.out.symm.trans hz1)
  have f3:=fits0 (HE3.out.symm.trans hz3)
  have l1:=HB.out.lo1
  have l2:=HB.out.hi
  obtain⟨n,hn⟩:∃ n:Nat,x=n:=⟨x.toNat,by omega⟩
  have HA:=qH (take_ok (H.out.up B5.out) (HB.out.mono (by omega)) n n (by omega) (by omega) (by omega))
  have HP2:=qH ((HB.out.take n n (by omega) (by omega)).mono (show 900000000+1<=1000000000 by omega))
  have HNN:=qH (⟨show x.toNat=n by omega,show 1<=n by omega,show n<=1000000000 by omega,f3.1,hn⟩:_/\_/\_/\_/\x=(n:Int))
  have HA:=qH (show Calls Tryz.prog 78 #[pAt b,.int .i64 x,.int .i64 x] w5 fun r w'=>r=.returned (.tuple #[])/\ToA N w5 b F R a (takeS s n n) w' from hn▸HA.out)
  clear f1 f3 l1 l2 hn hz1 hz2 hz3
  rw[hE]
  go_wp2_with fail
  refine HA.out.mono ?_
  rintro e w6 ⟨rfl,ht⟩
  have H6:=qH (ToA.before H.out B5.out ht)
  have HB6:=qH (show Calls Tryz.prog 91 #[pAt b,.int .i64 x,.string tx,.bool false] w6 fun r w'=>r=.returned (.tuple #[])/\ToA N w6 b (grow F w.heap.size) (grow R w.heap.size) a (putS (takeS s n n) n tx false) w' from HNN.out.2.2.2.2▸put_ok H6.out.gb HP2.out n HNN.out.2.1 HNN.out.2.2.1 tx HX.out HNN.out.2.2.2.1 false)
  clear ht
  go_wp2_with fail
  refine HB6.out.mono ?_
  rintro e w7 ⟨rfl,ht⟩
  have HP:=qH (show To N w b F R (repSt s x x tx) w7 by unfold repSt;rw[HNN.out.1];exact(H6.out.trans ht).to)
  clear ht
  go_wp2_with fail
  go_ret
  refine⟨by rw[HE0.out];rfl,?_⟩
  rw[HT2.out,if_pos HE0.out]
  exact HP.out
 ·have e1:((E:Int) == 0)=false:=by simpa using hE
  have e2:(E=0)=False:=eq_false hE
  have HEN:=qH hE
  clear hE
  go_wp2_with fail
  go_ret
  refine⟨rfl,?_⟩
  rw[HT2.out,if_neg HEN.out]
  exact(ToA.of_below H.out B5.out).to
theorem Replace_ok (h:GBa N w b F R a s) (hB:Pos s 900000000) (x y:Int) (tx:ByteArray) (hs:tx.size<=262144) :
  Calls Tryz.prog 27 #[pAt b,.int .i64 x,.int .i64 y,.string tx] w fun r w'=>r=.returned (.int .i64 (repEr s x y tx))/\To N w b F R (if repEr s x y tx=0 then repSt s x y tx else s) w':=by
 by_cases hxy:x=y
 ·subst hxy;exact Replace_eq h hB x tx hs
 ·exact Replace_ne h hB x y tx hs hxy
set_option maxRecDepth 100000 in
set_option maxHeartbeats 4000000 in
theorem Narrow_ok (h:GBa N w b F R a s) (hB:Pos s 900000000) (x y:Int) :
  Calls Tryz.prog 39 #[pAt b,.int .i64 x,.int .i64 y] w fun r w'=>r=.returned (.int .i64 (errB 3 (validS s x y)))/\To N w b F R (if errB 3 (validS s x y)=0 then narS s x y else s) w':=by
 have HX:=qH (trivial)
 have HB:=qH hB
 have H:=qH h
 obtain⟨E1,hE1⟩:∃ z:Int,z=0:=⟨_,rfl⟩
 obtain⟨E2,hE2⟩:∃ z:Int,z=errB 3 (validS s x y):=⟨_,rfl⟩
 obtain⟨E,hE⟩:∃ z:Int,z=errB 3 (validS s x y):=⟨_,rfl⟩
 rw[<-hE]
 have hPE:E=(if E1=0 then E2 else E1):=by rw[hE];skip;rw[hE1,hE2];simp[andE]
 obtain⟨T2,hT2⟩:∃ z:St,z=(if E=0 then narS s x y else s):=⟨_,rfl⟩
 rw[<-hT2]
 have HE1:=qH hE1
 have HE2:=qH hE2
 have HPE:=qH hPE
 have HT2:=qH hT2
 clear h hB hT2 hPE hE hE1 hE2
 go_enter Tryz.func39,Tryz.ntmps39
 go_wp2_with fail
 refine(H.out.valid_ x y).mono ?_
 rintro e w2 ⟨c2,rfl,he2,hb2,hc2⟩
 rw[<-HE2.out] at he2
 have C2:=qH (⟨he2,hc2⟩:c2.e=E2/\ChkAt w2 _ c2)
 have B2:=qH (hb2)
 clear he2 hc2 hb2
 go_wp2_with fail
 have hb4:=below1 w2 (.cells #[(madeC b).val,c2.val] 33)
 have hR3:=RSl.arr (enc:=encK) (zs:=[(madeC b),c2]) (MapKept.heap_alloc w2 (.cells #[(madeC b).val,c2.val] 33)).1 rfl
 have HF:=first_any hR3 2 (by simp) (by
  intro c hc
  simp only[List.mem_cons,List.not_mem_nil,or_false] at hc
  rcases hc with rfl|rfl
  ·exact(H.out.up B2.out).made_.en
  ·exact C2.out.2.en) (by
  intro i c w4 hi hz hb
  rcases i with _|_|i
  ·cases hi;exact(H.out.up B2.out).made_.run trivial w4 (up2 hb4 hb)
  ·cases hi;exact C2.out.2.run trivial w4 (up2 hb4 hb)
  ·simp at hi)
 have hfe:firstE [(madeC b),c2]=E:=by rw[firstE2,show(madeC b).e=E1 from HE1.out.symm,C2.out.1];exact HPE.out.symm
 rw[hfe] at HF
 have HF:=qH HF
 have B4:=qH (up2 B2.out hb4)
 clear hR3 hb4 hfe C2 B2
 refine HF.out.mono ?_
 rintro e w5 ⟨rfl,hb5⟩
 have B5:=qH (up2 B4.out hb5)
 clear hb5 B4 HF
 by_cases hE:E=0
 ·have HE0:=qH hE
  have hz:=HPE.out
  rw[hE] at hz
  have hz1:E1=0:=by
   by_cases q:E1=0
   ·exact q
   ·rw[if_neg q] at hz;exact hz.symm
  rw[if_pos hz1] at hz
  have hz2:E2=0:=hz.symm
  clear hz
  have f2:=valid0 (HE2.out.symm.trans hz2)
  obtain⟨n,hn⟩:∃ n:Nat,x=n:=⟨x.toNat,by omega⟩
  obtain⟨m,hm⟩:∃ n:Nat,y=n:=⟨y.toNat,by omega⟩
  have hh:=H.out.up B5.out
  have q0:=hh.buf.cell (j:=0) rfl
  have q1:=hh.buf.cell (j:=1) rfl
  have q2:=hh.buf.cell (j:=2) rfl
  have z1:=hh.buf.fz 1
  have z2:=hh.buf.fz 2
  have h1:=hh.store { s with lo:=x.toNat } (j:=1) (by omega) (.int .i64 x) ⟨rfl,rfl,rfl,rfl,rfl,rfl,rfl,rfl,rfl,rfl⟩ (by rw[hn,Int.toNat_natCast];rfl)
  have h2:=h1.trans (h1.gb.store { s with lo:=x.toNat,hi:=y.toNat } (j:=2) (by omega) (.int .i64 y) ⟨rfl,rfl,rfl,rfl,rfl,rfl,rfl,rfl,rfl,rfl⟩ (by rw[hm,Int.toNat_natCast];rfl))
  have H2:=qH (ToA.before H.out B5.out h2)
  clear f2 hn hm hz1 hz2 hh h1 h2
  rw[hE]
  go_wp2_with fail
  refine(H2.out.gb.stand s.pt).mono ?_
  rintro e w7 ⟨rfl,ht⟩
  have HP:=qH (show To N w b F R (narS s x y) w7 from(H2.out.trans ht).to)
  clear ht q0 q1 q2 z1 z2 H2
  go_wp2_with fail
  go_ret
  refine⟨by rw[HE0.out];rfl,?_⟩
  rw[HT2.out,if_pos HE0.out]
  exact HP.out
 ·have e1:((E:Int) == 0)=false:=by simpa using hE
  have e2:(E=0)=False:=eq_false hE
  have HEN:=qH hE
  clear hE
  go_wp2_with fail
  go_ret
  refine⟨rfl,?_⟩
  rw[HT2.out,if_neg HEN.out]
  exact(ToA.of_below H.out B5.out).to
set_option maxRecDepth 100000 in
set_option maxHeartbeats 4000000 in
theorem AddMarker_ok (h:GBa N w b F R a s) (hB:Pos s 900000000) (x:Int) (on:Bool) (hn:s.mn<=1000000000) :
  Calls Tryz.prog 13 #[pAt b,.int .i64 x,.bool on] w fun r w'=>r=.returned (if errB 3 (validS s x x)=0 then .tuple #[.int .i64 (Mks.addR s.M s.mn x on).ret,.int .i64 (Mks.addR s.M s.mn x on).err] else .tuple #[.int .i64 0,.int .i64 (errB 3 (validS s x x))])/\To N w b F R (if errB 3 (validS s x x)=0 then { s with M:=(Mks.addR s.M s.mn x on).m,mn:=(Mks.addR s.M s.mn x on).n } else s) w':=by
 have HX:=qH (hn)
 have HB:=qH hB
 have H:=qH h
 obtain⟨E1,hE1⟩:∃ z:Int,z=0:=⟨_,rfl⟩
 obtain⟨E2,hE2⟩:∃ z:Int,z=errB 3 (validS s x x):=⟨_,rfl⟩
 obtain⟨E,hE⟩:∃ z:Int,z=errB 3 (validS s x x):=⟨_,rfl⟩
 rw[<-hE]
 have hPE:E=(if E1=0 then E2 else E1):=by rw[hE];skip;rw[hE1,hE2];simp[andE]
 obtain⟨T2,hT2⟩:∃ z:St,z=(if E=0 then { s with M:=(Mks.addR s.M s.mn x on).m,mn:=(Mks.addR s.M s.mn x on).n } else s):=⟨_,rfl⟩
 rw[<-hT2]
 have HE1:=qH hE1
 have HE2:=qH hE2
 have HPE:=qH hPE
 have HT2:=qH hT2
 clear h hB hT2 hPE hE hE1 hE2 hn
 obtain⟨RV,hRV⟩:∃ z:Value,z=.tuple #[.int .i64 (Mks.addR s.M s.mn x on).ret,.int .i64 (Mks.addR s.M s.mn x on).err]:=⟨_,rfl⟩
 rw[<-hRV]
 have HRV:=qH hRV
 clear hRV
 go_enter Tryz.func13,Tryz.ntmps13
 go_wp2_with fail
 refine(H.out.valid_ x x).mono ?_
 rintro e w2 ⟨c2,rfl,he2,hb2,hc2⟩
 rw[<-HE2.out] at he2
 have C2:=qH (⟨he2,hc2⟩:c2.e=E2/\ChkAt w2 _ c2)
 have B2:=qH (hb2)
 clear he2 hc2 hb2
 go_wp2_with fail
 have hb4:=below1 w2 (.cells #[(madeC b).val,c2.val] 33)
 have hR3:=RSl.arr (enc:=encK) (zs:=[(madeC b),c2]) (MapKept.heap_alloc w2 (.cells #[(madeC b).val,c2.val] 33)).1 rfl
 have HF:=first_any hR3 2 (by simp) (by
  intro c hc
  simp only[List.mem_cons,List.not_mem_nil,or_false] at hc
  rcases hc with rfl|rfl
  ·exact(H.out.up B2.out).made_.en
  ·exact C2.out.2.en) (by
  intro i c w4 hi hz hb
  rcases i with _|_|i
  ·cases hi;exact(H.out.up B2.out).made_.run trivial w4 (up2 hb4 hb)
  ·cases hi;exact C2.out.2.run trivial w4 (up2 hb4 hb)
  ·simp at hi)
 have hfe:firstE [(madeC b),c2]=E:=by rw[firstE2,show(madeC b).e=E1 from HE1.out.symm,C2.out.1];exact HPE.out.symm
 rw[hfe] at HF
 have HF:=qH HF
 have B4:=qH (up2 B2.out hb4)
 clear hR3 hb4 hfe C2 B2
 refine HF.out.mono ?_
 rintro e w5 ⟨rfl,hb5⟩
 have B5:=qH (up2 B4.out hb5)
 clear hb5 B4 HF
 by_cases hE:E=0
 ·have HE0:=qH hE
  have hz:=HPE.out
  rw[hE] at hz
  have hz1:E1=0:=by
   by_cases q:E1=0
   ·exact q
   ·rw[if_neg q] at hz;exact hz.symm
  rw[if_pos hz1] at hz
  have hz2:E2=0:=hz.symm
  clear hz
  have f2:=valid0 (HE2.out.symm.trans hz2)
  have q10:=(H.out.up B5.out).cm
  clear hz1 hz2 f2
  rw[hE]
  have HQ:=qH (H.out.up B5.out)
  go_wp2_with fail
  refine(HQ.out.madd x on HX.out).mono ?_
  rintro e w6 ⟨rfl,ht⟩
  have HP:=qH (ToA.before H.out B5.out ht).to
  clear ht
  go_wp2_with fail
  go_ret2
  refine⟨by rw[HRV.out];rfl,?_⟩
  rw[HT2.out,if_pos HE0.out]
  exact HP.out
 ·have e1:((E:Int) != 0)=true:=by simpa using hE
  have e2:(E=0)=False:=eq_false hE
  have HEN:=qH hE
  clear hE
  go_wp2_with fail
  go_ret2
  refine⟨rfl,?_⟩
  rw[HT2.out,if_neg HEN.out]
  exact(ToA.of_below H.out B5.out).to
set_option maxRecDepth 100000 in
set_option maxHeartbeats 4000000 in
theorem MoveMarker_ok (h:GBa N w b F R a s) (hB:Pos s 900000000) (id x:Int) :
  Calls Tryz.prog 33 #[pAt b,.int .i64 id,.int .i64 x] w fun r w'=>r=.returned (.int .i64 (if mmE s id x=0 then (Mks.moveR s.M s.mn id x).err else mmE s id x))/\To N w b F R (if mmE s id x=0 then { s with M:=(Mks.moveR s.M s.mn id x).m,mn:=(Mks.moveR s.M s.mn id x).n } else s) w':=by
 have HX:=qH (trivial)
 have HB:=qH hB
 have H:=qH h
 obtain⟨E1,hE1⟩:∃ z:Int,z=0:=⟨_,rfl⟩
 obtain⟨E2,hE2⟩:∃ z:Int,z=errB 8 (lookM s.M id).isSome:=⟨_,rfl⟩
 obtain⟨E3,hE3⟩:∃ z:Int,z=errB 3 (validS s x x):=⟨_,rfl⟩
 obtain⟨E,hE⟩:∃ z:Int,z=mmE s id x:=⟨_,rfl⟩
 rw[<-hE]
 have hPE:E=(if E1=0 then (if E2=0 then E3 else E2) else E1):=by rw[hE];unfold mmE;rw[hE1,hE2,hE3];simp[andE]
 obtain⟨T2,hT2⟩:∃ z:St,z=(if E=0 then { s with M:=(Mks.moveR s.M s.mn id x).m,mn:=(Mks.moveR s.M s.mn id x).n } else s):=⟨_,rfl⟩
 rw[<-hT2]
 have HE1:=qH hE1
 have HE2:=qH hE2
 have HE3:=qH hE3
 have HPE:=qH hPE
 have HT2:=qH hT2
 clear h hB hT2 hPE hE hE1 hE2 hE3
 obtain⟨RV,hRV⟩:∃ z:Int,z=(Mks.moveR s.M s.mn id x).err:=⟨_,rfl⟩
 rw[<-hRV]
 have HRV:=qH hRV
 clear hRV
 go_enter Tryz.func33,Tryz.ntmps33
 go_wp2_with fail
 refine(H.out.marker_ id).mono ?_
 rintro e w2 ⟨c2,rfl,he2,hb2,hc2⟩
 rw[<-HE2.out] at he2
 have C2:=qH (⟨he2,hc2⟩:c2.e=E2/\ChkAt w2 _ c2)
 have B2:=qH (hb2)
 clear he2 hc2 hb2
 go_wp2_with fail
 refine((H.out.up B2.out).valid_ x x).mono ?_
 rintro e w3 ⟨c3,rfl,he3,hb3,hc3⟩
 rw[<-HE3.out] at he3
 have C2:=qH (⟨C2.out.1,C2.out.2.up hb3⟩:c2.e=E2/\ChkAt w3 _ c2)
 have C3:=qH (⟨he3,hc3⟩:c3.e=E3/\ChkAt w3 _ c3)
 have B3:=qH (up2 B2.out hb3)
 clear he3 hc3 hb3 B2
 go_wp2_with fail
 have hb4:=below1 w3 (.cells #[(madeC b).val,c2.val,c3.val] 33)
 have hR3:=RSl.arr (enc:=encK) (zs:=[(madeC b),c2,c3]) (MapKept.heap_alloc w3 (.cells #[(madeC b).val,c2.val,c3.val] 33)).1 rfl
 have HF:=first_any hR3 3 (by simp) (by
  intro c hc
  simp only[List.mem_cons,List.not_mem_nil,or_false] at hc
  rcases hc with rfl|rfl|rfl
  ·exact(H.out.up B3.out).made_.en
  ·exact C2.out.2.en
  ·exact C3.out.2.en) (by
  intro i c w4 hi hz hb
  rcases i with _|_|_|i
  ·cases hi;exact(H.out.up B3.out).made_.run trivial w4 (up2 hb4 hb)
  ·cases hi;exact C2.out.2.run trivial w4 (up2 hb4 hb)
  ·cases hi;exact C3.out.2.run trivial w4 (up2 hb4 hb)
  ·simp at hi)
 have hfe:firstE [(madeC b),c2,c3]=E:=by rw[firstE3,show(madeC b).e=E1 from HE1.out.symm,C2.out.1,C3.out.1];exact HPE.out.symm
 rw[hfe] at HF
 have HF:=qH HF
 have B4:=qH (up2 B3.out hb4)
 clear hR3 hb4 hfe C2 C3 B3
 refine HF.out.mono ?_
 rintro e w5 ⟨rfl,hb5⟩
 have B5:=qH (up2 B4.out hb5)
 clear hb5 B4 HF
 by_cases hE:E=0
 ·have HE0:=qH hE
  have hz:=HPE.out
  rw[hE] at hz
  have hz1:E1=0:=by
   by_cases q:E1=0
   ·exact q
   ·rw[if_neg q] at hz;exact hz.symm
  rw[if_pos hz1] at hz
  have hz2:E2=0:=by
   by_cases q:E2=0
   ·exact q
   ·rw[if_neg q] at hz;exact hz.symm
  rw[if_pos hz2] at hz
  have hz3:E3=0:=hz.symm
  clear hz
  have f3:=valid0 (HE3.out.symm.trans hz3)
  clear f3 hz1 hz2 hz3
  rw[hE]
  have HQ:=qH (H.out.up B5.out)
  have q10:=HQ.out.cm
  go_wp2_with fail
  refine(HQ.out.mmove id x).mono ?_
  rintro e w6 ⟨rfl,ht⟩
  have HP:=qH ((ToA.before H.out B5.out ht).to)
  clear ht q10
  go_wp2_with fail
  go_ret
  refine⟨by rw[HRV.out];rfl,?_⟩
  rw[HT2.out,if_pos HE0.out]
  exact HP.out
 ·have e1:((E:Int) != 0)=true:=by simpa using hE
  have e2:(E=0)=False:=eq_false hE
  have HEN:=qH hE
  clear hE
  go_wp2_with fail
  go_ret
  refine⟨rfl,?_⟩
  rw[HT2.out,if_neg HEN.out]
  exact(ToA.of_below H.out B5.out).to
set_option maxRecDepth 100000 in
set_option maxHeartbeats 4000000 in
theorem prop_ok (h:GBa N w b F R a s) (hB:Pos s 900000000) (x y nm vk vn:Int) (has:Bool) :
  Calls Tryz.prog 73 #[pAt b,.int .i64 x,.int .i64 y,.int .i64 nm,.agg #[.int .i64 vk,.int .i64 vn],.bool has] w fun r w'=>r=.returned (.int .i64 (if prE s x y=0 then setE s.P x y nm (wantOf has vk vn) else prE s x y))/\To N w b F R (if prE s x y=0 then setS s x y nm (wantOf has vk vn) else s) w':=by
 have HX:=qH (trivial)
 have HB:=qH hB
 have H:=qH h
 obtain⟨E1,hE1⟩:∃ z:Int,z=errB 3 (validS s x y):=⟨_,rfl⟩
 obtain⟨E2,hE2⟩:∃ z:Int,z=openE s:=⟨_,rfl⟩
 obtain⟨E,hE⟩:∃ z:Int,z=prE s x y:=⟨_,rfl⟩
 rw[<-hE]
 have hPE:E=(if E1=0 then E2 else E1):=by rw[hE];unfold prE;rw[hE1,hE2];simp[andE]
 obtain⟨T2,hT2⟩:∃ z:St,z=(if E=0 then setS s x y nm (wantOf has vk vn) else s):=⟨_,rfl⟩
 rw[<-hT2]
 have HE1:=qH hE1
 have HE2:=qH hE2
 have HPE:=qH hPE
 have HT2:=qH hT2
 clear h hB hT2 hPE hE hE1 hE2
 obtain⟨RV,hRV⟩:∃ z:Int,z=setE s.P x y nm (wantOf has vk vn):=⟨_,rfl⟩
 rw[<-hRV]
 have HRV:=qH hRV
 clear hRV
 go_enter Tryz.func73,Tryz.ntmps73
 go_wp2_with fail
 have hbx:=below1 w (.cells #[.int .i64 vk,.int .i64 vn] 31)
 have kb:=Blk.made w 31 #[.int .i64 vk,.int .i64 vn]
 generalize w.alloc (.cells #[.int .i64 vk,.int .i64 vn] 31)=W at *
 have HK:=qH (⟨kb,hbx⟩:_/\_)
 have H0:=qH H.out
 have H:=qH (H.out.up hbx)
 clear kb hbx
 refine H.out.none_.mono ?_
 rintro e w0 ⟨rfl,rfl⟩
 go_wp2_with fail
 refine(H.out.valid_ x y).mono ?_
 rintro e w1 ⟨c1,rfl,he1,hb1,hc1⟩
 rw[<-HE1.out] at he1
 have C1:=qH (⟨he1,hc1⟩:c1.e=E1/\ChkAt w1 _ c1)
 have B1:=qH (hb1)
 clear he1 hc1 hb1
 go_wp2_with fail
 have hb4:=below1 w1 (.cells #[c1.val,(openC b (openE s)).val] 33)
 have hR3:=RSl.arr (enc:=encK) (zs:=[c1,(openC b (openE s))]) (MapKept.heap_alloc w1 (.cells #[c1.val,(openC b (openE s)).val] 33)).1 rfl
 have HF:=first_any hR3 2 (by simp) (by
  intro c hc
  simp only[List.mem_cons,List.not_mem_nil,or_false] at hc
  rcases hc with rfl|rfl
  ·exact C1.out.2.en
  ·exact(H.out.up B1.out).open_.en) (by
  intro i c w4 hi hz hb
  rcases i with _|_|i
  ·cases hi;exact C1.out.2.run trivial w4 (up2 hb4 hb)
  ·cases hi;exact(H.out.up B1.out).open_.run trivial w4 (up2 hb4 hb)
  ·simp at hi)
 have hfe:firstE [c1,(openC b (openE s))]=E:=by rw[firstE2,C1.out.1,show(openC b (openE s)).e=E2 from HE2.out.symm];exact HPE.out.symm
 rw[hfe] at HF
 have HF:=qH HF
 have B4:=qH (up2 B1.out hb4)
 clear hR3 hb4 hfe C1 B1
 refine HF.out.mono ?_
 rintro e w5 ⟨rfl,hb5⟩
 have B5:=qH (up2 B4.out hb5)
 clear hb5 B4 HF
 by_cases hE:E=0
 ·have HE0:=qH hE
  have hz:=HPE.out
  rw[hE] at hz
  have hz1:E1=0:=by
   by_cases q:E1=0
   ·exact q
   ·rw[if_neg q] at hz;exact hz.symm
  rw[if_pos hz1] at hz
  have hz2:E2=0:=hz.symm
  clear hz
  have f1:=valid0 (HE1.out.symm.trans hz1)
  clear f1 hz1 hz2
  rw[hE]
  have HQ:=qH (H.out.up B5.out)
  have t0:=(HK.out.1.up B5.out).cell (j:=0) rfl
  have t1:=(HK.out.1.up B5.out).cell (j:=1) rfl
  go_wp2_with fail
  refine(set_ok HQ.out (HB.out.mono (by omega)) x y nm vk vn has).mono ?_
  rintro e w6 ⟨rfl,ht⟩
  have HP:=qH (show To N w b F R (setS s x y nm (wantOf has vk vn)) w6 from(ht.before H.out B5.out).before H0.out HK.out.2)
  clear ht t0 t1
  go_wp2_with fail
  go_ret
  refine⟨by rw[HRV.out];rfl,?_⟩
  rw[HT2.out,if_pos HE0.out]
  exact HP.out
 ·have e1:((E:Int) != 0)=true:=by simpa using hE
  have e2:(E=0)=False:=eq_false hE
  have HEN:=qH hE
  clear hE
  go_wp2_with fail
  go_ret
  refine⟨rfl,?_⟩
  rw[HT2.out,if_neg HEN.out]
  exact((ToA.of_below H.out B5.out).to).before H0.out HK.out.2
end
end Go.Proofs.YtkpoodjhjfmfjaaGreatDoor
namespace Go.Proofs.YtkpoodjhjfmfjaaGreatDoor
open Go.RowKit
section
variable {P : Program} {md : Region.Mode} {S : World → Prop} {Q : Exit → Act → World → Prop} {l : List Oper} {M : List (Nat × Nat × Nat)} {listed : Array Bool} {m : Nat}
end
end Go.Proofs.YtkpoodjhjfmfjaaGreatDoor
