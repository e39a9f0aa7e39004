/- A part. -/
import Derived.Test.YtkpoodjhjfmfjaaGreatDoorZ08
import Derived.Test.YtkpoodjhjfmfjaaGreatDoorZ06
set_option linter.unusedVariables false
set_option linter.unusedSimpArgs false
namespace Go.Proofs.YtkpoodjhjfmfjaaGreatDoor
open Go.RowKit Go.Lib
def chainN (again:Bool) (ch:Int) (n:Nat):Int:=if again=false\/ch<0 then (n:Int) else ch
def UndoT (w:World) (l:Nat) (F:Nat->Prop) (G':List (List Chg)) (c:Int) (r:Ending) (w':World):Prop:=
 Only F w w'/\∃ n,w.heap.size<=n/\n<=w'.heap.size /\
  ((c=0/\r=.returned (.tuple #[.slice none 0 0,.int .i64 13])/\LogT w' l (fun k=>grow F w.heap.size k/\k<n) ⟨G',[],0⟩) \/
   ∃(m:Nat) (g:List Chg) (v:Value),c=((m+1:Nat):Int)/\G'[m]?=some g/\r=.returned (.tuple #[v,.int .i64 0])/\LogT w' l (fun k=>grow F w.heap.size k/\k<n) ⟨G',[],m⟩/\ROwn encCg 121 9 n w' v g.reverse)
theorem LgOk.setCh {s:Lg} (h:LgOk s) {c:Int} (h1:c<=s.G.length) (h2:-1<=c):LgOk { s with ch:=c }:=⟨h.og,h.oo,h.co,h.cg,h1,h2⟩
theorem LgOk.nilO {G:List (List Chg)} {O:List Chg} {ch:Int} (h:LgOk ⟨G,O,ch⟩):LgOk ⟨G,[],ch⟩:=⟨h.og,by simp,by simp[costL],h.cg,h.ch,h.c1⟩
theorem LogT.of {w:World} {l:Nat} {gv ov:Value} {vs:List Sl3} {F:Nat->Prop} {G:List (List Chg)} {c co:Int} (hx:LogX w l gv ov vs G [] c co 0) (hk:LgOk ⟨G,[],c⟩) (hco:co=(costG G:Nat)) (hf:∀ k,logFoot l gv ov vs k->F k):LogT w l F ⟨G,[],c⟩:=
 ⟨hk,gv,ov,vs,by subst hco;simpa [costL] using hx,hf⟩
section
variable {w w' : World} {N l : Nat} {F : Nat → Prop} {s : Lg} {gv ov : Value} {vs : List Sl3}
set_option maxRecDepth 100000 in
set_option maxHeartbeats 4000000 in
theorem lundo1 (h:LogT w l F s) (hT:Tabs N w) (hN:∀ k,F k->N<=k) (hNs:N<=w.heap.size) {C:Int} (hCC:C=s.close.G.length) :
  Calls Tryz.prog 84 #[pAt l,.bool false] w (UndoT w l F s.close.G C):=by
 have HN:=qH (tnone h)
 have hFl:=h.lt.2
 have hcl:=tclose h hT hN hNs
 have HC:Hid (Calls Tryz.prog 144 #[pAt l] w fun r w1=>r=.returned (.tuple #[])/\Only F w w1/\LgOk s.close/\s.close.G.length<=1048576/\∃ gv' ov' vs',LogX w1 l gv' ov' vs' s.close.G [] s.close.ch (costG s.close.G:Nat) 0/\∀ k,logFoot l gv' ov' vs' k->grow F w.heap.size k):=qH (hcl.mono (by
  rintro r w1 ⟨rfl,⟨hlt,ho⟩⟩
  have hlen:=hlt.len.2
  obtain⟨hok,gv',ov',vs',hx,hf⟩:=hlt
  exact⟨rfl,ho,hok,hlen,gv',ov',vs',hx,hf⟩))
 have HlF:=qH hFl
 clear hT hN hNs hcl hFl h
 generalize hGs:s.close=sc at *
 obtain⟨G',O',ch⟩:=sc
 dsimp only at *
 obtain⟨co,hco⟩:∃ co:Int,co=(costG G':Nat):=⟨_,rfl⟩
 rw[<-hco] at HC
 clear hGs
 go_enter Tryz.func84,Tryz.ntmps84
 go_wp2_with fail
 refine HN.out.mono ?_
 rintro e w0 ⟨rfl,rfl⟩
 go_wp2_with fail
 refine HC.out.mono ?_
 rintro e w1 ⟨rfl,ho1,hok,hlen,gv',ov',vs',hx1,hf1⟩
 have hO':O'=O':=rfl
 have HX:=qH hx1
 have HO1:=qH ho1
 have HK:=qH (⟨hok,hlen,hco⟩:_/\_/\_)
 have HL:=qH hlen
 have HF1:Hid (∀ k,logFoot l gv' ov' vs' k->grow F w.heap.size k/\k<w1.heap.size):=qH (fun k hk=>⟨hf1 k hk,hx1.foot_lt hk⟩)
 have z1:=ho1.size
 clear ho1 hx1 hf1 HC HN hok hlen hco hO'
 obtain⟨A1,cap1,hgv,hn1,hn2,hr1⟩:=HX.out.gr.shape eltG
 have hvl:vs'.length=G'.length:=HX.out.len
 rw[hvl] at hgv hn1
 have c1:w1.cell? ⟨l,1,none⟩=some (.slice A1 G'.length cap1):=by rw[<-hgv];exact HX.out.blk.cell (j:=1) rfl
 have c3:w1.cell? ⟨l,3,none⟩=some (.int .i64 ch):=HX.out.blk.cell (j:=3) rfl
 have f3:=HX.out.blk.fz 3
 have HGV:=qH hgv
 clear hvl hr1 hgv
 by_cases hz:C=0
 ·have hC0:=qH hz
  have hl0:G'.length=0:=by omega
  rw[hl0] at c1
  go_wp2_with fail
  go_ret2
  have z2:=HO1.out.size
  refine⟨HO1.out.setCell (p:=⟨l,3,none⟩) HlF.out _,w1.heap.size,by omega,by simp,.inl ⟨hC0.out,rfl,LogT.of (HX.out.setChn (k:=0)) (HK.out.1.nilO.setCh (by simp) (by simp)) HK.out.2.2 HF1.out⟩⟩
 ·obtain⟨m,hm⟩:∃ m:Nat,C=((m+1:Nat):Int):=⟨(C - 1).toNat,by omega⟩
  have hC0:=qH hm
  have hmm:m<G'.length:=by omega
  have d0:(((G'.length:Nat):Int) == 0)=false:=by rw[beq_eq_false_iff_ne];omega
  have n0:(G'.length=0)=False:=eq_false (by omega)
  have n1:(G'=[])=False:=eq_false (fun e=>by rw[e] at hmm;simp at hmm)
  have s1:IntKind.i64.wrap (((G'.length:Nat):Int) - 1)=(m:Int):=by rw[IntWalk.i64_in _ (by have:=HL.out;omega)];omega
  go_wp2_with fail
  have hW:LogX ((w1.setCell ⟨l,3,none⟩ (.int .i64 (G'.length:Int))).setCell ⟨l,3,none⟩ (.int .i64 (m:Int))) l gv' ov' vs' G' [] m co 0:=by
   have:=(HX.out.setChn (k:=((G'.length:Nat):Int))).setChn (k:=(m:Int))
   first|exact this|exact HX.out.setChn (k:=(m:Int))
  have hOW:Only F w ((w1.setCell ⟨l,3,none⟩ (.int .i64 (G'.length:Int))).setCell ⟨l,3,none⟩ (.int .i64 (m:Int))):=by
   first
    | exact(HO1.out.setCell (p:=⟨l,3,none⟩) HlF.out _).setCell (p:=⟨l,3,none⟩) HlF.out _
    | exact HO1.out.setCell (p:=⟨l,3,none⟩) HlF.out _
  have hzW:((w1.setCell ⟨l,3,none⟩ (.int .i64 (G'.length:Int))).setCell ⟨l,3,none⟩ (.int .i64 (m:Int))).heap.size=w1.heap.size:=by simp
  have HW:=qH hW
  have HOW:=qH hOW
  clear hW hOW c1 c3 f3 HX HO1
  generalize (w1.setCell ⟨l,3,none⟩ (.int .i64 (G'.length:Int))).setCell ⟨l,3,none⟩ (.int .i64 (m:Int))=W at *
  obtain⟨x,hx⟩:∃ x,vs'[m]?=some x:=⟨_,List.getElem?_eq_getElem (by rw[HW.out.len];omega)⟩
  obtain⟨g,hg⟩:∃ g,G'[m]?=some g:=⟨_,List.getElem?_eq_getElem (by omega)⟩
  obtain⟨hrow,hgp⟩:=HW.out.rows m x g hx hg
  obtain⟨A2,cap2,hx2,hn3,hn4,hr2⟩:=hrow.shape eltCg
  obtain⟨A3,cap3,hgv3,_,_,hr3⟩:=HW.out.gr.shape eltG
  have hA:A3=A1:=(Value.slice.inj (HGV.out.symm.trans hgv3)).1.symm
  subst hA
  obtain⟨ga,oa,rfl,hga,hat⟩:=hr3.at_ eltG hx
  have k0:=hat 0 _ rfl
  rw[Nat.mul_one,Nat.add_zero] at k0
  replace k0:=k0.trans (congrArg some hx2)
  have X1:∀ X:UpW W.heap.size W,X.w.cell? ⟨l,1,none⟩=some (.slice (some ⟨ga,oa,none⟩) G'.length cap1):=fun X=>by
   have:=(HW.out.blk.up X.up).cell (j:=1) rfl
   rw[HGV.out] at this;exact this
  have X3:∀ X:UpW W.heap.size W,X.w.cell? ⟨l,3,none⟩=some (.int .i64 (m:Int)):=fun X=>(HW.out.blk.up X.up).cell (j:=3) rfl
  have XK:∀ X:UpW W.heap.size W,X.w.cell? ⟨ga,oa+m,none⟩=some (.slice A2 g.length cap2):=fun X=>cell_up k0 X.up
  have hgl:g.length<=1048576:=by have h1:=costL_mem (List.mem_of_getElem? hg);have h2:=costL_len g;have h3:=HK.out.1.cg;dsimp only at h3;omega
  have HCL:=qH (fun(V:World) (hb:Below W.heap.size W V)=>cloneCg (hr2.up hb) cap2 (by omega))
  have hmi:(m:Int)<(G'.length:Int):=by omega
  have HG:=qH hg
  clear hat k0 hr2 hr3 hgv3 hx hx2 hrow hn3 hn4 hg
  refine wp_region_mix W.heap.size 12 [([0,1,2,3,4,5,6,7,8,9],10)] [11] (by kernel_rfl) (fun c d v a w h=>by cases d<;>exact h) (by kernel_rfl) ?_
  simp only[wpMix,pk_nil,pk_cons,pushAt_zero,pushAt_succ,List.drop_succ_cons,List.drop_zero]
  repeat (go_big_quiet_step (fail))
  refine wpQuiet_nil ?_
  clear X1 X3 XK
  go_wp2_with fail
  refine(HCL.out _ (Below.refl _ W).drew).mono ?_
  rintro e w4 ⟨v,rfl,hown,hb4⟩
  go_wp2_with fail
  have hb4':Below W.heap.size W w4:=((Below.refl _ W).drew).trans hb4
  refine thenQ_normal ⟨⟨⟨_,hb4'⟩,rfl⟩,?_⟩
  repeat (go_big_quiet_step (fail))
  refine wpQuiet_nil ?_
  go_wp2_with fail
  refine(revCg hown (by omega)).mono ?_
  rintro e w5 ⟨rfl,hown5,ho5⟩
  go_wp2_with fail
  go_ret2
  have hvb:∀ k,v.ownBlock=some k->W.heap.size<=k:=fun k hk=>hown.base hk
  have z2:=HOW.out.size
  have z4:=hb4'.size
  have z5:=ho5.size
  refine⟨(HOW.out.trans (Only.of_below hb4')).then ho5 (fun k hk hlt=>by have:=hvb k hk;omega),W.heap.size,by omega,by omega,.inr ⟨m,g,v,hC0.out,HG.out,rfl,LogT.of ((HW.out.up hb4').only ho5 (fun k hk e=>by have:=(HF1.out k hk).2;have:=hvb k e;omega)) (HK.out.1.nilO.setCh (by dsimp only;omega) (by omega)) HK.out.2.2 ?_,hown5.low (by show W.heap.size<=W.drew.heap.size;exact Nat.le_refl _)⟩⟩
  intro k hk;have:=HF1.out k hk;exact⟨this.1,by omega⟩
set_option maxRecDepth 100000 in
set_option maxHeartbeats 4000000 in
theorem lundo2 (h:LogT w l F s) (hT:Tabs N w) (hN:∀ k,F k->N<=k) (hNs:N<=w.heap.size) {C:Int} (hCC:C=s.close.G.length) (hch:s.close.ch<0) :
  Calls Tryz.prog 84 #[pAt l,.bool true] w (UndoT w l F s.close.G C):=by
 have HN:=qH (tnone h)
 have hFl:=h.lt.2
 have hcl:=tclose h hT hN hNs
 have HC:Hid (Calls Tryz.prog 144 #[pAt l] w fun r w1=>r=.returned (.tuple #[])/\Only F w w1/\LgOk s.close/\s.close.G.length<=1048576/\∃ gv' ov' vs',LogX w1 l gv' ov' vs' s.close.G [] s.close.ch (costG s.close.G:Nat) 0/\∀ k,logFoot l gv' ov' vs' k->grow F w.heap.size k):=qH (hcl.mono (by
  rintro r w1 ⟨rfl,⟨hlt,ho⟩⟩
  have hlen:=hlt.len.2
  obtain⟨hok,gv',ov',vs',hx,hf⟩:=hlt
  exact⟨rfl,ho,hok,hlen,gv',ov',vs',hx,hf⟩))
 have HlF:=qH hFl
 clear hT hN hNs hcl hFl h
 generalize hGs:s.close=sc at *
 obtain⟨G',O',ch⟩:=sc
 dsimp only at *
 obtain⟨co,hco⟩:∃ co:Int,co=(costG G':Nat):=⟨_,rfl⟩
 rw[<-hco] at HC
 clear hGs
 go_enter Tryz.func84,Tryz.ntmps84
 go_wp2_with fail
 refine HN.out.mono ?_
 rintro e w0 ⟨rfl,rfl⟩
 go_wp2_with fail
 refine HC.out.mono ?_
 rintro e w1 ⟨rfl,ho1,hok,hlen,gv',ov',vs',hx1,hf1⟩
 have hO':O'=O':=rfl
 have HX:=qH hx1
 have HO1:=qH ho1
 have HK:=qH (⟨hok,hlen,hco⟩:_/\_/\_)
 have HL:=qH hlen
 have HF1:Hid (∀ k,logFoot l gv' ov' vs' k->grow F w.heap.size k/\k<w1.heap.size):=qH (fun k hk=>⟨hf1 k hk,hx1.foot_lt hk⟩)
 have z1:=ho1.size
 clear ho1 hx1 hf1 HC HN hok hlen hco hO'
 obtain⟨A1,cap1,hgv,hn1,hn2,hr1⟩:=HX.out.gr.shape eltG
 have hvl:vs'.length=G'.length:=HX.out.len
 rw[hvl] at hgv hn1
 have c1:w1.cell? ⟨l,1,none⟩=some (.slice A1 G'.length cap1):=by rw[<-hgv];exact HX.out.blk.cell (j:=1) rfl
 have c3:w1.cell? ⟨l,3,none⟩=some (.int .i64 ch):=HX.out.blk.cell (j:=3) rfl
 have f3:=HX.out.blk.fz 3
 have HGV:=qH hgv
 clear hvl hr1 hgv
 by_cases hz:C=0
 ·have hC0:=qH hz
  have hl0:G'.length=0:=by omega
  rw[hl0] at c1
  have dch:decide (ch<0)=true:=decide_eq_true hch
  go_wp2_with fail
  go_ret2
  have z2:=HO1.out.size
  refine⟨HO1.out.setCell (p:=⟨l,3,none⟩) HlF.out _,w1.heap.size,by omega,by simp,.inl ⟨hC0.out,rfl,LogT.of (HX.out.setChn (k:=0)) (HK.out.1.nilO.setCh (by simp) (by simp)) HK.out.2.2 HF1.out⟩⟩
 ·obtain⟨m,hm⟩:∃ m:Nat,C=((m+1:Nat):Int):=⟨(C - 1).toNat,by omega⟩
  have hC0:=qH hm
  have hmm:m<G'.length:=by omega
  have d0:(((G'.length:Nat):Int) == 0)=false:=by rw[beq_eq_false_iff_ne];omega
  have n0:(G'.length=0)=False:=eq_false (by omega)
  have n1:(G'=[])=False:=eq_false (fun e=>by rw[e] at hmm;simp at hmm)
  have s1:IntKind.i64.wrap (((G'.length:Nat):Int) - 1)=(m:Int):=by rw[IntWalk.i64_in _ (by have:=HL.out;omega)];omega
  have dch:decide (ch<0)=true:=decide_eq_true hch
  go_wp2_with fail
  have hW:LogX ((w1.setCell ⟨l,3,none⟩ (.int .i64 (G'.length:Int))).setCell ⟨l,3,none⟩ (.int .i64 (m:Int))) l gv' ov' vs' G' [] m co 0:=by
   have:=(HX.out.setChn (k:=((G'.length:Nat):Int))).setChn (k:=(m:Int))
   first|exact this|exact HX.out.setChn (k:=(m:Int))
  have hOW:Only F w ((w1.setCell ⟨l,3,none⟩ (.int .i64 (G'.length:Int))).setCell ⟨l,3,none⟩ (.int .i64 (m:Int))):=by
   first
    | exact(HO1.out.setCell (p:=⟨l,3,none⟩) HlF.out _).setCell (p:=⟨l,3,none⟩) HlF.out _
    | exact HO1.out.setCell (p:=⟨l,3,none⟩) HlF.out _
  have hzW:((w1.setCell ⟨l,3,none⟩ (.int .i64 (G'.length:Int))).setCell ⟨l,3,none⟩ (.int .i64 (m:Int))).heap.size=w1.heap.size:=by simp
  have HW:=qH hW
  have HOW:=qH hOW
  clear hW hOW c1 c3 f3 HX HO1
  generalize (w1.setCell ⟨l,3,none⟩ (.int .i64 (G'.length:Int))).setCell ⟨l,3,none⟩ (.int .i64 (m:Int))=W at *
  obtain⟨x,hx⟩:∃ x,vs'[m]?=some x:=⟨_,List.getElem?_eq_getElem (by rw[HW.out.len];omega)⟩
  obtain⟨g,hg⟩:∃ g,G'[m]?=some g:=⟨_,List.getElem?_eq_getElem (by omega)⟩
  obtain⟨hrow,hgp⟩:=HW.out.rows m x g hx hg
  obtain⟨A2,cap2,hx2,hn3,hn4,hr2⟩:=hrow.shape eltCg
  obtain⟨A3,cap3,hgv3,_,_,hr3⟩:=HW.out.gr.shape eltG
  have hA:A3=A1:=(Value.slice.inj (HGV.out.symm.trans hgv3)).1.symm
  subst hA
  obtain⟨ga,oa,rfl,hga,hat⟩:=hr3.at_ eltG hx
  have k0:=hat 0 _ rfl
  rw[Nat.mul_one,Nat.add_zero] at k0
  replace k0:=k0.trans (congrArg some hx2)
  have X1:∀ X:UpW W.heap.size W,X.w.cell? ⟨l,1,none⟩=some (.slice (some ⟨ga,oa,none⟩) G'.length cap1):=fun X=>by
   have:=(HW.out.blk.up X.up).cell (j:=1) rfl
   rw[HGV.out] at this;exact this
  have X3:∀ X:UpW W.heap.size W,X.w.cell? ⟨l,3,none⟩=some (.int .i64 (m:Int)):=fun X=>(HW.out.blk.up X.up).cell (j:=3) rfl
  have XK:∀ X:UpW W.heap.size W,X.w.cell? ⟨ga,oa+m,none⟩=some (.slice A2 g.length cap2):=fun X=>cell_up k0 X.up
  have hgl:g.length<=1048576:=by have h1:=costL_mem (List.mem_of_getElem? hg);have h2:=costL_len g;have h3:=HK.out.1.cg;dsimp only at h3;omega
  have HCL:=qH (fun(V:World) (hb:Below W.heap.size W V)=>cloneCg (hr2.up hb) cap2 (by omega))
  have hmi:(m:Int)<(G'.length:Int):=by omega
  have HG:=qH hg
  clear hat k0 hr2 hr3 hgv3 hx hx2 hrow hn3 hn4 hg
  refine wp_region_mix W.heap.size 12 [([0,1,2,3,4,5,6,7,8,9],10)] [11] (by kernel_rfl) (fun c d v a w h=>by cases d<;>exact h) (by kernel_rfl) ?_
  simp only[wpMix,pk_nil,pk_cons,pushAt_zero,pushAt_succ,List.drop_succ_cons,List.drop_zero]
  repeat (go_big_quiet_step (fail))
  refine wpQuiet_nil ?_
  clear X1 X3 XK
  go_wp2_with fail
  refine(HCL.out _ (Below.refl _ W).drew).mono ?_
  rintro e w4 ⟨v,rfl,hown,hb4⟩
  go_wp2_with fail
  have hb4':Below W.heap.size W w4:=((Below.refl _ W).drew).trans hb4
  refine thenQ_normal ⟨⟨⟨_,hb4'⟩,rfl⟩,?_⟩
  repeat (go_big_quiet_step (fail))
  refine wpQuiet_nil ?_
  go_wp2_with fail
  refine(revCg hown (by omega)).mono ?_
  rintro e w5 ⟨rfl,hown5,ho5⟩
  go_wp2_with fail
  go_ret2
  have hvb:∀ k,v.ownBlock=some k->W.heap.size<=k:=fun k hk=>hown.base hk
  have z2:=HOW.out.size
  have z4:=hb4'.size
  have z5:=ho5.size
  refine⟨(HOW.out.trans (Only.of_below hb4')).then ho5 (fun k hk hlt=>by have:=hvb k hk;omega),W.heap.size,by omega,by omega,.inr ⟨m,g,v,hC0.out,HG.out,rfl,LogT.of ((HW.out.up hb4').only ho5 (fun k hk e=>by have:=(HF1.out k hk).2;have:=hvb k e;omega)) (HK.out.1.nilO.setCh (by dsimp only;omega) (by omega)) HK.out.2.2 ?_,hown5.low (by show W.heap.size<=W.drew.heap.size;exact Nat.le_refl _)⟩⟩
  intro k hk;have:=HF1.out k hk;exact⟨this.1,by omega⟩
set_option maxRecDepth 100000 in
set_option maxHeartbeats 4000000 in
theorem lundo3 (h:LogT w l F s) (hT:Tabs N w) (hN:∀ k,F k->N<=k) (hNs:N<=w.heap.size) {C:Int} (hCC:C=s.close.ch) (hch:0<=s.close.ch) (hch2:s.close.ch<=s.close.G.length) :
  Calls Tryz.prog 84 #[pAt l,.bool true] w (UndoT w l F s.close.G C):=by
 have HN:=qH (tnone h)
 have hFl:=h.lt.2
 have hcl:=tclose h hT hN hNs
 have HC:Hid (Calls Tryz.prog 144 #[pAt l] w fun r w1=>r=.returned (.tuple #[])/\Only F w w1/\LgOk s.close/\s.close.G.length<=1048576/\∃ gv' ov' vs',LogX w1 l gv' ov' vs' s.close.G [] s.close.ch (costG s.close.G:Nat) 0/\∀ k,logFoot l gv' ov' vs' k->grow F w.heap.size k):=qH (hcl.mono (by
  rintro r w1 ⟨rfl,⟨hlt,ho⟩⟩
  have hlen:=hlt.len.2
  obtain⟨hok,gv',ov',vs',hx,hf⟩:=hlt
  exact⟨rfl,ho,hok,hlen,gv',ov',vs',hx,hf⟩))
 have HlF:=qH hFl
 clear hT hN hNs hcl hFl h
 generalize hGs:s.close=sc at *
 obtain⟨G',O',ch⟩:=sc
 dsimp only at *
 obtain⟨co,hco⟩:∃ co:Int,co=(costG G':Nat):=⟨_,rfl⟩
 rw[<-hco] at HC
 clear hGs
 go_enter Tryz.func84,Tryz.ntmps84
 go_wp2_with fail
 refine HN.out.mono ?_
 rintro e w0 ⟨rfl,rfl⟩
 go_wp2_with fail
 refine HC.out.mono ?_
 rintro e w1 ⟨rfl,ho1,hok,hlen,gv',ov',vs',hx1,hf1⟩
 have hO':O'=O':=rfl
 have HX:=qH hx1
 have HO1:=qH ho1
 have HK:=qH (⟨hok,hlen,hco⟩:_/\_/\_)
 have HL:=qH hlen
 have HF1:Hid (∀ k,logFoot l gv' ov' vs' k->grow F w.heap.size k/\k<w1.heap.size):=qH (fun k hk=>⟨hf1 k hk,hx1.foot_lt hk⟩)
 have z1:=ho1.size
 clear ho1 hx1 hf1 HC HN hok hlen hco hO'
 obtain⟨A1,cap1,hgv,hn1,hn2,hr1⟩:=HX.out.gr.shape eltG
 have hvl:vs'.length=G'.length:=HX.out.len
 rw[hvl] at hgv hn1
 have c1:w1.cell? ⟨l,1,none⟩=some (.slice A1 G'.length cap1):=by rw[<-hgv];exact HX.out.blk.cell (j:=1) rfl
 have c3:w1.cell? ⟨l,3,none⟩=some (.int .i64 ch):=HX.out.blk.cell (j:=3) rfl
 have f3:=HX.out.blk.fz 3
 have HGV:=qH hgv
 clear hvl hr1 hgv
 by_cases hz:C=0
 ·have hC0:=qH hz
  have dch:decide (ch<0)=false:=decide_eq_false (by omega)
  have dn:(ch<0)=False:=eq_false (by omega)
  rw[show ch=0 by omega] at c3 dch dn HX
  go_wp2_with fail
  go_ret2
  have z2:=HO1.out.size
  refine⟨HO1.out,w1.heap.size,by omega,by simp,.inl ⟨hC0.out,rfl,LogT.of HX.out (HK.out.1.nilO.setCh (by simp) (by simp)) HK.out.2.2 HF1.out⟩⟩
 ·obtain⟨m,hm⟩:∃ m:Nat,C=((m+1:Nat):Int):=⟨(C - 1).toNat,by omega⟩
  have hC0:=qH hm
  have hmm:m<G'.length:=by omega
  have dch:decide (ch<0)=false:=decide_eq_false (by omega)
  have dn:(ch<0)=False:=eq_false (by omega)
  have d0:(ch == 0)=false:=by simp;omega
  have n0:(ch=0)=False:=eq_false (by omega)
  have s1:IntKind.i64.wrap (ch - 1)=(m:Int):=by rw[IntWalk.i64_in _ (by have:=HL.out;omega)];omega
  go_wp2_with fail
  have hW:LogX (w1.setCell ⟨l,3,none⟩ (.int .i64 (m:Int))) l gv' ov' vs' G' [] m co 0:=by
   have:=(HX.out.setChn (k:=((G'.length:Nat):Int))).setChn (k:=(m:Int))
   first|exact this|exact HX.out.setChn (k:=(m:Int))
  have hOW:Only F w (w1.setCell ⟨l,3,none⟩ (.int .i64 (m:Int))):=by
   first
    | exact(HO1.out.setCell (p:=⟨l,3,none⟩) HlF.out _).setCell (p:=⟨l,3,none⟩) HlF.out _
    | exact HO1.out.setCell (p:=⟨l,3,none⟩) HlF.out _
  have hzW:(w1.setCell ⟨l,3,none⟩ (.int .i64 (m:Int))).heap.size=w1.heap.size:=by simp
  have HW:=qH hW
  have HOW:=qH hOW
  clear hW hOW c1 c3 f3 HX HO1
  generalize w1.setCell ⟨l,3,none⟩ (.int .i64 (m:Int))=W at *
  obtain⟨x,hx⟩:∃ x,vs'[m]?=some x:=⟨_,List.getElem?_eq_getElem (by rw[HW.out.len];omega)⟩
  obtain⟨g,hg⟩:∃ g,G'[m]?=some g:=⟨_,List.getElem?_eq_getElem (by omega)⟩
  obtain⟨hrow,hgp⟩:=HW.out.rows m x g hx hg
  obtain⟨A2,cap2,hx2,hn3,hn4,hr2⟩:=hrow.shape eltCg
  obtain⟨A3,cap3,hgv3,_,_,hr3⟩:=HW.out.gr.shape eltG
  have hA:A3=A1:=(Value.slice.inj (HGV.out.symm.trans hgv3)).1.symm
  subst hA
  obtain⟨ga,oa,rfl,hga,hat⟩:=hr3.at_ eltG hx
  have k0:=hat 0 _ rfl
  rw[Nat.mul_one,Nat.add_zero] at k0
  replace k0:=k0.trans (congrArg some hx2)
  have X1:∀ X:UpW W.heap.size W,X.w.cell? ⟨l,1,none⟩=some (.slice (some ⟨ga,oa,none⟩) G'.length cap1):=fun X=>by
   have:=(HW.out.blk.up X.up).cell (j:=1) rfl
   rw[HGV.out] at this;exact this
  have X3:∀ X:UpW W.heap.size W,X.w.cell? ⟨l,3,none⟩=some (.int .i64 (m:Int)):=fun X=>(HW.out.blk.up X.up).cell (j:=3) rfl
  have XK:∀ X:UpW W.heap.size W,X.w.cell? ⟨ga,oa+m,none⟩=some (.slice A2 g.length cap2):=fun X=>cell_up k0 X.up
  have hgl:g.length<=1048576:=by have h1:=costL_mem (List.mem_of_getElem? hg);have h2:=costL_len g;have h3:=HK.out.1.cg;dsimp only at h3;omega
  have HCL:=qH (fun(V:World) (hb:Below W.heap.size W V)=>cloneCg (hr2.up hb) cap2 (by omega))
  have hmi:(m:Int)<(G'.length:Int):=by omega
  have HG:=qH hg
  clear hat k0 hr2 hr3 hgv3 hx hx2 hrow hn3 hn4 hg
  refine wp_region_mix W.heap.size 12 [([0,1,2,3,4,5,6,7,8,9],10)] [11] (by kernel_rfl) (fun c d v a w h=>by cases d<;>exact h) (by kernel_rfl) ?_
  simp only[wpMix,pk_nil,pk_cons,pushAt_zero,pushAt_succ,List.drop_succ_cons,List.drop_zero]
  repeat (go_big_quiet_step (fail))
  refine wpQuiet_nil ?_
  clear X1 X3 XK
  go_wp2_with fail
  refine(HCL.out _ (Below.refl _ W).drew).mono ?_
  rintro e w4 ⟨v,rfl,hown,hb4⟩
  go_wp2_with fail
  have hb4':Below W.heap.size W w4:=((Below.refl _ W).drew).trans hb4
  refine thenQ_normal ⟨⟨⟨_,hb4'⟩,rfl⟩,?_⟩
  repeat (go_big_quiet_step (fail))
  refine wpQuiet_nil ?_
  go_wp2_with fail
  refine(revCg hown (by omega)).mono ?_
  rintro e w5 ⟨rfl,hown5,ho5⟩
  go_wp2_with fail
  go_ret2
  have hvb:∀ k,v.ownBlock=some k->W.heap.size<=k:=fun k hk=>hown.base hk
  have z2:=HOW.out.size
  have z4:=hb4'.size
  have z5:=ho5.size
  refine⟨(HOW.out.trans (Only.of_below hb4')).then ho5 (fun k hk hlt=>by have:=hvb k hk;omega),W.heap.size,by omega,by omega,.inr ⟨m,g,v,hC0.out,HG.out,rfl,LogT.of ((HW.out.up hb4').only ho5 (fun k hk e=>by have:=(HF1.out k hk).2;have:=hvb k e;omega)) (HK.out.1.nilO.setCh (by dsimp only;omega) (by omega)) HK.out.2.2 ?_,hown5.low (by show W.heap.size<=W.drew.heap.size;exact Nat.le_refl _)⟩⟩
  intro k hk;have:=HF1.out k hk;exact⟨this.1,by omega⟩
theorem tundo (h:LogT w l F s) (hT:Tabs N w) (hN:∀ k,F k->N<=k) (hNs:N<=w.heap.size) (again:Bool) :
  Calls Tryz.prog 84 #[pAt l,.bool again] w (UndoT w l F s.close.G (chainN again s.close.ch s.close.G.length)):=by
 have hch:=h.1.close.ch
 unfold chainN
 cases again with
 | false=>rw[if_pos (.inl rfl)];exact lundo1 h hT hN hNs rfl
 | true=>
   by_cases h0:s.close.ch<0
   ·rw[if_pos (.inr h0)];exact lundo2 h hT hN hNs rfl h0
   ·rw[if_neg (fun e=>e.elim (by simp) h0)];exact lundo3 h hT hN hNs rfl (by omega) hch
end
end Go.Proofs.YtkpoodjhjfmfjaaGreatDoor
namespace Go.Proofs.YtkpoodjhjfmfjaaGreatDoor
open Go.RowKit Go.Lib
section
variable {w w' w1 w3 : World} {l : Nat} {gv gv3 ov : Value} {vs : List Sl3} {G : List (List Chg)} {O g : List Chg} {ch co nw : Int} {x : Sl3}
end
end Go.Proofs.YtkpoodjhjfmfjaaGreatDoor
namespace Go.Proofs.YtkpoodjhjfmfjaaGreatDoor
open Go.RowKit Go.Lib
section
variable {w : World} {l : Nat} {gv ov : Value} {vs : List Sl3} {G : List (List Chg)} {O : List Chg} {ch co nw : Int}
end
end Go.Proofs.YtkpoodjhjfmfjaaGreatDoor
