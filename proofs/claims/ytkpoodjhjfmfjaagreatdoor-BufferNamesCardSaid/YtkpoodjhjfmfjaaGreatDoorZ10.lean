/- A part. -/
import Derived.Test.YtkpoodjhjfmfjaaGreatDoorZ01
import Derived.Test.YtkpoodjhjfmfjaaGreatDoorZ00
import Derived.Lib.Overlaps
import Derived.Lib.AppendZerosOnto
import Derived.Laws.Externs
import Derived.BigRegion
import Derived.Test.YtkpoodjhjfmfjaaGreatDoorZpm
set_option linter.unusedVariables false
set_option linter.unusedSimpArgs false
namespace Go.Proofs.YtkpoodjhjfmfjaaGreatDoor
open Go.RowKit Go.Lib
open Ovs (PropE encP eltP SortedP run_copy_k wpList_cp_run stL stL_eq stL_length heap_setCells only_setCells)
section
variable {w w' : World} {L V : List PcE} {v u : Value} {B g c : Nat} {cl : List Value}
theorem zeroPcE (w:World):(zeroValue 190).run Tryz.prog w=.ok (.agg #[.int .i64 0,.int .i64 0,.slice none 0 0]) w:=by kernel_rfl
theorem infoPc:∃ i,Tryz.prog.info? 190=some i/\i.zero=some (.agg #[.int .i64 0,.int .i64 0,.slice none 0 0])/\i.size=3/\i.bytes=40:=by
 obtain⟨i,hi,h0,h1,h2⟩:=info_parts eltPc.info
 exact⟨i,hi,h0,h1,h2⟩
theorem infoPc3:(Tryz.prog.info? 190).map (·.size)=some 3:=by
 obtain⟨i,hi,_,h1,_⟩:=infoPc
 rw[hi];simp[h1]
theorem cellsPc_len (zs:List PcE):(cellsL encPc zs).length=zs.length*3:=cellsL_length eltPc.len zs
theorem onePc (zs:List PcE):∀ u ∈ cellsL encPc zs,u.oneCell'=true:=fun u hu=>by
 obtain⟨x,_,hx⟩:=List.mem_flatMap.1 hu
 exact eltPc.one x u hx
abbrev PcRow (w:World) (g:Nat) (cl:List Value):Prop:=w.heap[g]?=some (.cells cl.toArray 190 (0,0))
theorem PcRow.cell (h:PcRow w g cl) (j:Nat):w.cell? ⟨g,j,none⟩=cl[j]?:=by simp[World.cell?,h]
theorem PcRow.froz (h:PcRow w g cl) (j:Nat):w.frozen? ⟨g,j,none⟩=false:=by simp[World.frozen?,h]
theorem pc_open (h:ROwn encPc 190 3 B w v L):(v=.slice none 0 0/\L=[])\/∃ g c cl,v=.slice (some ⟨g,0,none⟩) L.length c/\B<=g/\PcRow w g cl/\L.length<=c/\c<=maxLen/\cl.length=c*3/\cl.take (L.length*3)=cellsL encPc L:=by
 rcases h.2 with ⟨rfl,h0⟩|⟨g,cap,cur,rfl,hB,hb,hl,hm,hs,ht⟩
 ·exact .inl ⟨rfl,List.eq_nil_of_length_eq_zero h0⟩
 ·exact .inr ⟨g,cap,cur.toList,rfl,hB,by simpa using hb,hl,hm,by simpa using hs,ht⟩
theorem pc_mk (hB:B<=g) (hb:PcRow w g cl) (hl:L.length<=c) (hm:c<=maxLen) (hs:cl.length=c*3) (ht:cl.take (L.length*3)=cellsL encPc L):ROwn encPc 190 3 B w (.slice (some ⟨g,0,none⟩) L.length c) L:=
 ⟨cellsPc_len L,.inr ⟨g,c,_,rfl,hB,hb,hl,hm,by simpa using hs,by simpa using ht⟩⟩
theorem pc_src (h:ROwn encPc 190 3 B w u V):(u=.slice none 0 0/\V=[])\/∃ a cap,u=.slice (some a) V.length cap/\∀ j x,(cellsL encPc V)[j]?=some x->w.cell? (a.add j)=some x:=by
 rcases pc_open h with h1|⟨g,c,cl,rfl,_,hr,_,_,_,ht⟩
 ·exact .inl h1
 ·refine .inr ⟨_,c,rfl,fun j x hj=>?_⟩
  rw[Addr.add_lit,Nat.zero_add,hr.cell]
  rw[<-ht,List.getElem?_take] at hj
  split at hj
  ·exact hj
  ·cases hj
theorem appV {i:Nat} (hg:PcRow w g cl) (hcs:cl.length=c*3) (hcm:c<=maxLen) (hu:ROwn encPc 190 3 B w u V) (hroom:i+V.length<=c) :
  ∃ w',(∀ ty,(Builtin.append_ #[187,187] ty #[.slice (some ⟨g,0,none⟩) i c,u]).run Tryz.prog w=.ok (.slice (some ⟨g,0,none⟩) (i+V.length) c) w')/\PcRow w' g (stL cl (i*3) (cellsL encPc V))/\Only (·=g) w w':=by
 obtain⟨io,hi,hz0,hzs,hzb⟩:=infoPc
 rcases pc_src hu with ⟨rfl,rfl⟩|⟨a,cap,rfl,hsrc⟩
 ·refine⟨w,fun ty=>?_,hg,Only.refl _ _⟩
  have hic:i<=c:=by simpa using hroom
  simp[Builtin.append_,run_underlying eltPc.ht,sizeOf,typeInfo,hi,Builtin.lenOf,Builtin.firstCells,hic,storeCells]
 ·have hfit:i*io.size+(cellsL encPc V).length<=cl.toArray.size:=by rw[hzs,cellsPc_len];simp[hcs];omega
  have hr:=fun ty=>run_append_room (P:=Tryz.prog) w 187 ty 190 io eltPc.ht hi g i c cl.toArray hg a V.length cap (cellsL encPc V) (by rw[cellsPc_len,hzs]) hsrc (onePc V) hroom hfit
  refine⟨_,hr,?_,?_⟩
  ·have h1:=setRow_heap w g cl.toArray (cl.toArray.toList.take (i*io.size)++cellsL encPc V++cl.toArray.toList.drop (i*io.size+(cellsL encPc V).length)).toArray 190 (0,0) hg
   have h2:stL cl (i*3) (cellsL encPc V)=cl.toArray.toList.take (i*io.size)++cellsL encPc V++cl.toArray.toList.drop (i*io.size+(cellsL encPc V).length):=by
    rw[stL_eq _ _ _ (by rw[cellsPc_len,hcs];omega),hzs]
   unfold PcRow
   rw[h2]
   exact h1
  ·exact⟨rfl,rfl,rfl,by simp,fun k _ hk=>setRow_other w g k _ hk⟩
theorem copyV {o dLen dCap:Nat} (hg:PcRow w g cl) (hu:ROwn encPc 190 3 B w u V) (hd:V.length<=dLen) (hfit:o+V.length*3<=cl.length) :
  ∃ w',(∀ ty,(Builtin.copy_ #[187,187] ty #[.slice (some ⟨g,o,none⟩) dLen dCap,u]).run Tryz.prog w=.ok (goInt V.length) w')/\PcRow w' g (stL cl o (cellsL encPc V))/\Only (·=g) w w':=by
 obtain⟨io,hi,hz0,hzs,hzb⟩:=infoPc
 rcases pc_src hu with ⟨rfl,rfl⟩|⟨a,cap,rfl,hsrc⟩
 ·refine⟨w,fun ty=>?_,hg,Only.refl _ _⟩
  simp[Builtin.copy_,run_underlying eltPc.ht,sizeOf,typeInfo,hi,Builtin.lenOf,Builtin.firstCells,storeCells]
 ·have hm:Nat.min V.length dLen=V.length:=Nat.min_eq_left hd
  have hr:=fun ty=>run_copy_k (P:=Tryz.prog) w 187 187 ty 190 g o dLen dCap a V.length cap 3 (cellsL encPc V) eltPc.ht infoPc3 (by rw[hm,cellsPc_len]) hsrc (fun j hj=>by rw[hg.cell,List.getElem?_eq_getElem (by rw[cellsPc_len] at hj;omega)];rfl) (fun j _=>hg.froz _) (onePc V)
  rw[hm] at hr
  exact⟨_,hr,heap_setCells _ _ _ _ hg,only_setCells _ _ _⟩
theorem copyS {o o' m dLen dCap sCap g':Nat} {cl':List Value} {S:List PcE} (hg:PcRow w g cl) (hg':PcRow w g' cl') (hS:∀ j x,(cellsL encPc S)[j]?=some x->cl'[o'+j]?=some x) (hm:S.length=m) (hd:m<=dLen) (hfit:o+m*3<=cl.length) :
  ∃ w',(∀ ty,(Builtin.copy_ #[187,187] ty #[.slice (some ⟨g,o,none⟩) dLen dCap,.slice (some ⟨g',o',none⟩) m sCap]).run Tryz.prog w=.ok (goInt m) w')/\PcRow w' g (stL cl o (cellsL encPc S))/\Only (·=g) w w':=by
 subst hm
 have hm:Nat.min S.length dLen=S.length:=Nat.min_eq_left hd
 have hr:=fun ty=>run_copy_k (P:=Tryz.prog) w 187 187 ty 190 g o dLen dCap ⟨g',o',none⟩ S.length sCap 3 (cellsL encPc S) eltPc.ht infoPc3 (by rw[hm,cellsPc_len]) (fun j x hj=>by rw[Addr.add_lit,hg'.cell];exact hS j x hj) (fun j hj=>by rw[hg.cell,List.getElem?_eq_getElem (by rw[cellsPc_len] at hj;omega)];rfl) (fun j _=>hg.froz _) (onePc S)
 rw[hm] at hr
 exact⟨_,hr,heap_setCells _ _ _ _ hg,only_setCells _ _ _⟩
theorem tail_at {k:Nat} (ht:cl.take (L.length*3)=cellsL encPc L) (hk:k<=L.length):∀ j x,(cellsL encPc (L.drop k))[j]?=some x->cl[k*3+j]?=some x:=fun j x hj=>by
 rw[cellsL_drop eltPc.len L k hk,List.getElem?_drop] at hj
 have h1:=(List.getElem?_eq_some_iff.1 hj).1
 rw[<-ht,List.getElem?_take] at hj
 rw[cellsPc_len] at h1
 rw[if_pos h1] at hj
 exact hj
end
end Go.Proofs.YtkpoodjhjfmfjaaGreatDoor
namespace Go.Proofs.YtkpoodjhjfmfjaaGreatDoor
open Go.RowKit Go.Lib
open Ovs (PropE encP eltP SortedP run_copy_k wpList_cp_run stL stL_eq stL_length heap_setCells only_setCells)
section
variable {w w' : World} {L V : List PcE} {v u : Value} {B Bu g c : Nat} {cl : List Value}
def RepP (w:World) (B:Nat) (v:Value) (Z:List PcE) (e:Ending) (w':World):Prop:=
 ∃ v',e=.returned v'/\ROwn encPc 190 3 B w' v' Z/\Only (fun k=>v.ownBlock=some k) w w'/\∀ k,v'.ownBlock=some k->v.ownBlock=some k\/w.heap.size<=k
set_option maxRecDepth 100000 in
set_option maxHeartbeats 2000000 in
theorem rep_end {i:Nat} (hv:ROwn encPc 190 3 B w v L) (hB:B<=w.heap.size) (hu:ROwn encPc 190 3 Bu w u V) (hi:i<L.length) (hl:L.length+V.length<=1000000) (hlen:L.length<=i+V.length) :
  Calls Tryz.prog 250 #[v,.int .i64 i,.int .i64 L.length,u] w (RepP w B v (L.take i++V)):=by
 obtain⟨g,cap,e,hcl,hcm,hBg,hgl,hfz,hcell⟩:=hv.lies eltPc (by omega)
 subst e
 have hcut:=hv.cut eltPc rfl i (by omega)
 have hti:(L.take i).length=i:=by simp;omega
 obtain⟨A,cu,rfl,_,_,hR⟩:=hu.shape eltPc
 obtain⟨v',w',hrun,hown,hg,hb⟩:=append_run eltPc hcut hB hR cu (by rw[hti];omega) (by omega)
 obtain⟨A',c',hv',_,_,_⟩:=hown.shape eltPc
 have hlz:(L.take i++V).length=i+V.length:=by simp;omega
 rw[hlz] at hv'
 subst hv'
 have HR:=qH hrun
 have HX:=qH (⟨hown,hg,hb,hlz⟩:_/\_/\_/\_)
 have ne1:((i:Int) ==(L.length:Int))=false:=by simp;omega
 have ne2:((i:Int)=(L.length:Int))=False:=eq_false (by omega)
 have hil:(i:Int)<=L.length:=by omega
 have d1:decide ((i:Int)+(V.length:Int)<L.length)=false:=decide_eq_false (by omega)
 have d2:(((i+V.length:Nat):Int)<L.length)=False:=eq_false (by omega)
 have d3:(i+V.length<L.length)=False:=eq_false (by omega)
 have hcl':(L.length:Int)<=cap:=by omega
 unfold maxLen at hcm
 clear hv hu hcut hrun hown hg hb hfz hcell hR hlen
 go_enter Tryz.func250,Tryz.ntmps250
 go_wp2_with (at_builtin;refine wpList_app_run rfl _ _ _ rfl rfl rfl HR.out ?_)
 go_ret
 refine⟨.slice A' (i+V.length) c',rfl,HX.out.1,⟨HX.out.2.1.os,HX.out.2.1.tape,HX.out.2.1.output,HX.out.2.1.size,fun k hk hn=>HX.out.2.1.block k hk (fun e=>hn e.symm)⟩,fun k hk=>?_⟩
 rcases HX.out.2.2.1 with h|h
 ·exact .inl (h▸hk)
 ·rw[h] at hk;cases hk;exact .inr (Nat.le_refl _)
theorem stL_get_hi {cl vs:List Value} {o j:Nat} (h:o+vs.length<=cl.length) (hj:o+vs.length<=j):(stL cl o vs)[j]?=cl[j]?:=by
 rw[stL_eq _ _ _ h,List.getElem?_append_right (by simp only[List.length_append,List.length_take];omega),List.getElem?_drop]
 congr 1
 simp only[List.length_append,List.length_take];omega
theorem stL_take {cl vs:List Value} {o:Nat} (h:o+vs.length<=cl.length):(stL cl o vs).take (o+vs.length)=cl.take o++vs:=by
 rw[stL_eq _ _ _ h]
 exact List.take_left' (by simp only[List.length_append,List.length_take];omega)
set_option maxRecDepth 100000 in
set_option maxHeartbeats 2000000 in
theorem rep_cut {i:Nat} (hv:ROwn encPc 190 3 B w v L) (hB:B<=w.heap.size) (hu:ROwn encPc 190 3 Bu w u V) (hi:i<L.length) (hl:L.length+V.length<=1000000) (hlen:i+V.length<L.length) :
  Calls Tryz.prog 250 #[v,.int .i64 i,.int .i64 L.length,u] w (RepP w B v (L.take i++V)):=by
 rcases pc_open hv with ⟨_,rfl⟩|⟨g,c,cl,rfl,hBg,hg,hnc,hcm,hcs,hct⟩
 ·simp at hi
 obtain⟨w1,hrun,hg1,ho1⟩:=appV (i:=i) hg hcs hcm hu (by omega)
 have hM:(L.take i++V++L.drop (i+V.length)).length=L.length:=by simp;omega
 have hcv:=cellsPc_len V
 have hown1:ROwn encPc 190 3 B w1 (.slice (some ⟨g,0,none⟩) (L.take i++V++L.drop (i+V.length)).length c) (L.take i++V++L.drop (i+V.length)):=by
  refine pc_mk hBg hg1 (by rw[hM];exact hnc) hcm (by rw[stL_length];exact hcs) ?_
  rw[hM]
  have h1:i*3+(cellsL encPc V).length<=cl.length:=by rw[hcv];omega
  rw[stL_eq _ _ _ h1,cellsL_append,cellsL_append,cellsL_take eltPc.len L i (by omega),cellsL_drop eltPc.len L _ (by omega),<-hct,List.take_take,Nat.min_eq_left (by omega),List.take_append,List.take_of_length_le (by simp only[List.length_append,List.length_take];omega)]
  have hlen2:(List.take (i*3) cl++cellsL encPc V).length=(i+V.length)*3:=by simp only[List.length_append,List.length_take,hcv];omega
  rw[hlen2,List.drop_take,hcv,show i*3+V.length*3=(i+V.length)*3 by omega]
 obtain⟨w2,hclr,hown2,ho2⟩:=clear_own eltPc zeroPcE (fun u hu=>by simp[Value.cells] at hu;rcases hu with rfl|rfl|rfl<;>rfl) hown1 (i:=i+V.length) (by rw[hM];omega) (c -(i+V.length))
 rw[hM] at hclr
 have htk:(L.take i++V++L.drop (i+V.length)).take (i+V.length)=L.take i++V:=by rw[List.take_left' (by simp;omega)]
 rw[htk] at hown2
 have HR:=qH hrun
 have HX:=qH (⟨hown2,ho1.trans ho2⟩:_/\_)
 obtain⟨iv,hiv⟩:∃ z,z=i+V.length:=⟨_,rfl⟩
 rw[<-hiv] at hclr HR HX
 have ne1:((i:Int) ==(L.length:Int))=false:=by simp;omega
 have ne2:((i:Int)=(L.length:Int))=False:=eq_false (by omega)
 have hil:(i:Int)<=L.length:=by omega
 have hil3:(i:Int)<=c:=by omega
 have d1:decide ((iv:Int)<L.length)=true:=decide_eq_true (by omega)
 have d2:((iv:Int)<L.length)=True:=eq_true (by omega)
 have d3:(iv<L.length)=True:=eq_true (by omega)
 have hcl':(L.length:Int)<=c:=by omega
 have q1:(iv:Int)<=L.length:=by omega
 have q2:¬ c=iv:=by omega
 have q3:(c == iv)=false:=by simp;omega
 have q4:(iv:Int)<=c:=by omega
 unfold maxLen at hcm
 obtain⟨A,cu,rfl,_,_,_⟩:=hu.shape eltPc
 clear hv hu hrun hg1 hown1 hown2 ho1 ho2 htk hM hcv hg hcs hct hiv hlen
 go_enter Tryz.func250,Tryz.ntmps250
 go_wp2_with (at_builtin;refine wpList_app_run rfl _ _ _ rfl rfl rfl HR.out ?_)
 go_ret
 exact⟨.slice (some ⟨g,0,none⟩) iv c,rfl,HX.out.1,HX.out.2.mono (fun k e=>by subst e;rfl),fun k hk=>.inl hk⟩
set_option maxRecDepth 100000 in
set_option maxHeartbeats 4000000 in
theorem rep_shrink {i k:Nat} (hv:ROwn encPc 190 3 B w v L) (hu:ROwn encPc 190 3 Bu w u V) (hik:i<=k) (hne:i≠k) (hk:k<L.length) (hl:L.length+V.length<=1000000) (hlen:i+V.length<=k) :
  Calls Tryz.prog 250 #[v,.int .i64 i,.int .i64 k,u] w (RepP w B v (L.take i++V++L.drop k)):=by
 rcases pc_open hv with ⟨_,rfl⟩|⟨g,c,cl,rfl,hBg,hg,hnc,hcm,hcs,hct⟩
 ·simp at hk
 have hcv:=cellsPc_len V
 have hcd:(cellsL encPc (L.drop k)).length=(L.length - k)*3:=by rw[cellsPc_len];simp
 obtain⟨iv,hiv⟩:∃ z,z=i+V.length:=⟨_,rfl⟩
 obtain⟨m,hm⟩:∃ z,z=L.length - k:=⟨_,rfl⟩
 obtain⟨tot,htot⟩:∃ z,z=iv+m:=⟨_,rfl⟩
 have hg0:PcRow w.drew g cl:=hg
 have hu0:ROwn encPc 190 3 Bu w.drew u V:=hu.kept (fun _ _=>rfl)
 obtain⟨w1,hcp1,hg1,ho1⟩:=copyV (o:=i*3) (dLen:=tot - i) (dCap:=c - i) hg0 hu0 (by omega) (by omega)
 have f1:i*3+(cellsL encPc V).length<=cl.length:=by rw[hcv];omega
 obtain⟨w2,hcp2,hg2,ho2⟩:=copyS (o:=iv*3) (o':=k*3) (m:=m) (dLen:=tot - iv) (dCap:=c - iv) (sCap:=c - k) (S:=L.drop k) (w:=w1.drew) hg1 hg1 (fun j x hj=>by
   rw[stL_get_hi f1 (by rw[hcv];omega)];exact tail_at hct (by omega) j x hj) (by simp;omega) (by omega) (by rw[stL_length];omega)
 have f2:iv*3+(cellsL encPc (L.drop k)).length<=(stL cl (i*3) (cellsL encPc V)).length:=by rw[stL_length,hcd];omega
 have hZ:(L.take i++V++L.drop k).length=tot:=by simp;omega
 have hrow:(stL (stL cl (i*3) (cellsL encPc V)) (iv*3) (cellsL encPc (L.drop k))).take (tot*3)=cellsL encPc (L.take i++V++L.drop k):=by
  have:=stL_take f2
  rw[hcd,show iv*3+(L.length - k)*3=tot*3 by omega] at this
  have h2:=stL_take f1
  rw[hcv,show i*3+V.length*3=iv*3 by omega] at h2
  rw[this,h2,cellsL_append,cellsL_append,cellsL_take eltPc.len L i (by omega),<-hct,List.take_take,Nat.min_eq_left (by omega)]
 -- what is left over is cleared
 have hclr:∃ w3,(∀ ty,(Builtin.clear_ #[187] ty #[.slice (if c=tot then some ⟨g,0,none⟩ else some ⟨g,tot*3,none⟩) (L.length - tot) (c - tot)]).run Tryz.prog w2=.ok (.tuple #[]) w3)/\ROwn encPc 190 3 B w3 (.slice (some ⟨g,0,none⟩) tot c) (L.take i++V++L.drop k)/\Only (·=g) w2 w3:=by
  by_cases hq:tot=L.length
  ·refine⟨w2,fun ty=>?_,?_,Only.refl _ _⟩
   ·have:L.length - tot=0:=by omega
    rw[this]
    by_cases hct:c=tot<;>simp[hct,Builtin.clear_,run_underlying eltPc.ht]
   ·have:=pc_mk (L:=L.take i++V++L.drop k) (c:=c) hBg hg2 (by rw[hZ];omega) hcm (by rw[stL_length,stL_length];exact hcs) (by rw[hZ];exact hrow)
    rw[hZ] at this;exact this
  ·have hM:(L.take i++V++L.drop k++L.drop tot).length=L.length:=by simp;omega
   have hown2:ROwn encPc 190 3 B w2 (.slice (some ⟨g,0,none⟩) (L.take i++V++L.drop k++L.drop tot).length c) (L.take i++V++L.drop k++L.drop tot):=by
    refine pc_mk hBg hg2 (by rw[hM];exact hnc) hcm (by rw[stL_length,stL_length];exact hcs) ?_
    rw[hM,cellsL_append,<-hrow]
    apply List.ext_getElem?
    intro j
    by_cases hj:j<tot*3
    ·rw[List.getElem?_append_left (by simp only[List.length_take,stL_length];omega),List.getElem?_take,List.getElem?_take,if_pos hj,if_pos (by omega)]
    ·rw[List.getElem?_append_right (by simp only[List.length_take,stL_length];omega)]
     have e1:(List.take (tot*3) (stL (stL cl (i*3) (cellsL encPc V)) (iv*3) (cellsL encPc (L.drop k)))).length=tot*3:=by simp only[List.length_take,stL_length];omega
     rw[e1,cellsL_drop eltPc.len L tot (by omega),List.getElem?_drop,<-hct,List.getElem?_take,List.getElem?_take]
     rw[show tot*3+(j - tot*3)=j by omega]
     split
     ·rw[stL_get_hi f2 (by rw[hcd];omega),stL_get_hi f1 (by rw[hcv];omega)]
     ·rfl
   obtain⟨w3,h1,h2,h3⟩:=clear_own eltPc zeroPcE (fun u hu=>by simp[Value.cells] at hu;rcases hu with rfl|rfl|rfl<;>rfl) hown2 (i:=tot) (by rw[hM];omega) (c - tot)
   rw[hM] at h1
   have htk:(L.take i++V++L.drop k++L.drop tot).take tot=L.take i++V++L.drop k:=List.take_left' hZ
   rw[htk] at h2
   refine⟨w3,fun ty=>?_,h2,h3⟩
   rw[if_neg (by omega)]
   exact h1 ty
 obtain⟨w3,hclr,hown3,ho3⟩:=hclr
 have HC1:=qH hcp1
 have HC2:=qH hcp2
 have HX:=qH (⟨hown3,((Only.refl (·=g) w).drew.trans (ho1.drew.trans (ho2.trans ho3)))⟩:_/\_)
 have HO2:=qH ho2
 have ne1:((i:Int) ==(k:Int))=false:=by simp;omega
 have ne2:((i:Int)=(k:Int))=False:=eq_false (by omega)
 have ne3:((k:Int) ==(L.length:Int))=false:=by simp;omega
 have ne4:((k:Int)=(L.length:Int))=False:=eq_false (by omega)
 have s1:IntKind.i64.wrap ((i:Int)+(V.length:Int))=(iv:Int):=by rw[IntWalk.i64_in _ (by omega)];omega
 have s2:IntKind.i64.wrap ((iv:Int)+(m:Int))=(tot:Int):=by rw[IntWalk.i64_in _ (by omega)];omega
 have b1:(i:Int)<=k:=by omega
 have b2:(k:Int)<=c:=by omega
 have b3:(k:Int)<=L.length:=by omega
 have b4:(i:Int)<=c:=by omega
 have b5:(tot:Int)<=c:=by omega
 have b6:(iv:Int)<=tot:=by omega
 have b7:(i:Int)<=tot:=by omega
 have b8:(tot:Int)<=L.length:=by omega
 have b9:(iv:Int)<=c:=by omega
 have q1:¬ c=i:=by omega
 have q2:¬ c=iv:=by omega
 have q3:¬ c=k:=by omega
 have g1:decide ((c:Int)<(tot:Int))=false:=decide_eq_false (by omega)
 have g2:((c:Int)<(tot:Int))=False:=eq_false (by omega)
 have g3:(c<tot)=False:=eq_false (by omega)
 have l1:decide ((iv:Int)<=(k:Int))=true:=decide_eq_true (by omega)
 have l2:((iv:Int)<=(k:Int))=True:=eq_true (by omega)
 have l3:(iv<=k)=True:=eq_true (by omega)
 have hmk:L.length - k=m:=by omega
 unfold maxLen at hcm
 obtain⟨A,cu,rfl,_,_,_⟩:=hu.shape eltPc
 clear hv hu hu0 hg0 hcp1 hcp2 hg1 hg2 ho1 ho2 ho3 hown3 hrow hZ f1 f2 hcv hcd hg hcs hct hiv hm htot hlen hik hne hk
 go_enter Tryz.func250,Tryz.ntmps250
 go_wp2_with fail
 go_region
 have c1:=HC1.out
 go_wp2_with fail
 refine wp_region_mixO (fun k=>k=g) 10 (.one [0,1,2,3,4,5,6,7,8] 9 (.done [])) (by kernel_rfl) (fun c d v a w h=>by cases d<;>exact h) (by kernel_rfl) ?_
 simp only[wpMixT,pk_nil,pk_cons,pushAt_zero,pushAt_succ,List.drop_succ_cons,List.drop_zero]
 repeat (go_big_quiet_step (fail))
 refine wpQuiet_nil ?_
 refine wpList_cp_run rfl _ _ _ rfl rfl rfl HC2.out ?_
 go_wp2_with fail
 refine thenQ_normal ⟨⟨⟨_,(Only.refl (fun k=>k=g) w1).drew.trans HO2.out⟩,rfl⟩,?_⟩
 refine wpQuiet_nil ?_
 go_wp2_with fail
 all_goals
  go_ret
  have h:=HX.out
  simp only[List.append_assoc] at h ⊢
  first
   | exact⟨.slice (some ⟨g,0,none⟩) tot c,rfl,h.1,h.2.mono (fun k e=>by subst e;rfl),fun k hk=>.inl hk⟩
   |(rw[‹c=tot›] at h
     exact⟨.slice (some ⟨g,0,none⟩) tot tot,rfl,h.1,h.2.mono (fun k e=>by subst e;rfl),fun k hk=>.inl hk⟩)
theorem overlapsPc_no {vb g lb cb lv cv o:Nat} {cl cl':List Value} {W:World} (hne:g≠vb) (hg:PcRow W g cl) (hvb:PcRow W vb cl') (hk:cl≠[]) (hk':cl'≠[]) :
  (callFunc 282 #[.slice (some ⟨g,o,none⟩) lb cb,.slice (some ⟨vb,0,none⟩) lv cv]).run Tryz.prog W=.ok (.value (.bool false)) W:=by
 rw[run_callFunc_extern Tryz.func282 (by kernel_rfl) (by kernel_rfl) (by kernel_rfl) (e:=Extern.SlicesOverlaps.overlaps #[187,187] #[4]) (by kernel_rfl),
  Lib.run_overlaps_apart W 187 4 190 Tryz.underlying187 3 Tryz.sizeOf190 ⟨g,o,none⟩ ⟨vb,0,none⟩ lb cb lv cv hne 190 190 cl.length cl'.length (by have h:=hg;unfold PcRow at h;simp[World.shape?,h]) (by have h:=hvb;unfold PcRow at h;simp[World.shape?,h]) (by simpa using hk') (by have h:=hg;unfold PcRow at h;simp[World.frozen?,h]) (by have h:=hg;unfold PcRow at h;simp[World.frozen?,h])]
 rfl
set_option maxRecDepth 100000 in
set_option maxHeartbeats 4000000 in
theorem rep_shift {i k:Nat} (hv:ROwn encPc 190 3 B w v L) (hu:ROwn encPc 190 3 Bu w u V) (hvu:∀ q,v.ownBlock=some q->u.ownBlock≠some q) (hik:i<=k) (hne:i≠k) (hk:k<L.length) (hl:L.length+V.length<=1000000) (hlen:k<i+V.length) {g c:Nat} (hvv:v=.slice (some ⟨g,0,none⟩) L.length c) (hroom:i+V.length+(L.length - k)<=c) :
  Calls Tryz.prog 250 #[v,.int .i64 i,.int .i64 k,u] w (RepP w B v (L.take i++V++L.drop k)):=by
 rcases pc_open hv with ⟨_,rfl⟩|⟨g',c',cl,e,hBg,hg,hnc,hcm,hcs,hct⟩
 ·simp at hk
 rw[hvv] at e
 cases e
 subst hvv
 rcases pc_open hu with ⟨_,rfl⟩|⟨vb,cu,ul,rfl,_,hub,_,_,hus,_⟩
 ·simp at hlen;omega
 have hgv:g≠vb:=fun e=>hvu g rfl (by rw[e];rfl)
 have hcv:=cellsPc_len V
 have hcd:(cellsL encPc (L.drop k)).length=(L.length - k)*3:=by rw[cellsPc_len];simp
 obtain⟨iv,hiv⟩:∃ z,z=i+V.length:=⟨_,rfl⟩
 obtain⟨m,hm⟩:∃ z,z=L.length - k:=⟨_,rfl⟩
 obtain⟨tot,htot⟩:∃ z,z=iv+m:=⟨_,rfl⟩
 have hg0:PcRow w.drew g cl:=hg
 have hg00:PcRow w.drew.drew g cl:=hg
 have hov:=overlapsPc_no (W:=w.drew) (lb:=tot - iv) (cb:=c - iv) (lv:=V.length) (cv:=cu) (o:=iv*3) hgv hg0 hub (by intro e;rw[e] at hcs;simp at hcs;omega) (by intro e;rw[e] at hus;simp at hus;omega)
 obtain⟨w1,hcp1,hg1,ho1⟩:=copyS (o:=iv*3) (o':=k*3) (m:=m) (dLen:=tot - iv) (dCap:=c - iv) (sCap:=c - k) (S:=L.drop k) hg00 hg00 (tail_at hct (by omega)) (by simp;omega) (by omega) (by omega)
 have f1:iv*3+(cellsL encPc (L.drop k)).length<=cl.length:=by rw[hcd];omega
 have hu1:ROwn encPc 190 3 Bu w1 (.slice (some ⟨vb,0,none⟩) V.length cu) V:=hu.kept (fun q hq=>by
  have hq':vb=q:=by simpa [Value.ownBlock] using hq
  subst hq'
  exact(ho1.block vb (by show vb<w.heap.size;exact hu.lt rfl) (fun e=>hgv e.symm)))
 obtain⟨w2,hcp2,hg2,ho2⟩:=copyV (o:=i*3) (dLen:=tot - i) (dCap:=c - i) hg1 hu1 (by omega) (by rw[stL_length];omega)
 have f2:i*3+(cellsL encPc V).length<=(stL cl (iv*3) (cellsL encPc (L.drop k))).length:=by rw[stL_length,hcv];omega
 have hZ:(L.take i++V++L.drop k).length=tot:=by simp;omega
 have hrow:(stL (stL cl (iv*3) (cellsL encPc (L.drop k))) (i*3) (cellsL encPc V)).take (tot*3)=cellsL encPc (L.take i++V++L.drop k):=by
  rw[cellsL_append,cellsL_append]
  apply List.ext_getElem?
  intro j
  rw[List.getElem?_take]
  have hl0:(cellsL encPc (L.take i)).length=i*3:=by rw[cellsPc_len];simp;omega
  have hl1:(cellsL encPc (L.take i)++cellsL encPc V).length=iv*3:=by rw[List.length_append,hl0,hcv];omega
  by_cases hj:j<tot*3
  ·rw[if_pos hj]
   by_cases hj2:j<iv*3
   ·rw[List.getElem?_append_left (by rw[hl1];exact hj2)]
    have h2:=stL_take f2
    rw[hcv,show i*3+V.length*3=iv*3 by omega] at h2
    have h3:=congrArg (fun l=>l[j]?) h2
    simp only[List.getElem?_take] at h3
    rw[if_pos hj2] at h3
    rw[h3]
    have:(stL cl (iv*3) (cellsL encPc (L.drop k))).take (i*3)=cellsL encPc (L.take i):=by
     rw[stL_eq _ _ _ f1,List.append_assoc,List.take_append_of_le_length (by simp only[List.length_take];omega),List.take_take,Nat.min_eq_left (by omega),cellsL_take eltPc.len L i (by omega),<-hct,List.take_take,Nat.min_eq_left (by omega)]
    rw[this]
   ·rw[stL_get_hi f2 (by rw[hcv];omega),List.getElem?_append_right (by rw[hl1];omega),hl1]
    have h2:=stL_take f1
    rw[hcd,show iv*3+(L.length - k)*3=tot*3 by omega] at h2
    have h3:=congrArg (fun l=>l[j]?) h2
    simp only[List.getElem?_take] at h3
    rw[if_pos hj,List.getElem?_append_right (by simp only[List.length_take];omega)] at h3
    rw[h3]
    congr 1
    simp only[List.length_take];omega
  ·rw[if_neg hj,List.getElem?_eq_none]
   rw[List.length_append,hl1,hcd];omega
 have hown2:ROwn encPc 190 3 B w2 (.slice (some ⟨g,0,none⟩) tot c) (L.take i++V++L.drop k):=by
  have:=pc_mk (L:=L.take i++V++L.drop k) (c:=c) hBg hg2 (by rw[hZ];omega) hcm (by rw[stL_length,stL_length];exact hcs) (by rw[hZ];exact hrow)
  rw[hZ] at this;exact this
 have HC1:=qH hcp1
 have HC2:=qH hcp2
 have HX:=qH (⟨hown2,((Only.refl (·=g) w).drew.drew.trans (ho1.trans ho2))⟩:_/\_)
 have HO1:=qH ho1
 have HV:=qH hov
 have ne1:((i:Int) ==(k:Int))=false:=by simp;omega
 have ne2:((i:Int)=(k:Int))=False:=eq_false (by omega)
 have ne3:((k:Int) ==(L.length:Int))=false:=by simp;omega
 have ne4:((k:Int)=(L.length:Int))=False:=eq_false (by omega)
 have s1:IntKind.i64.wrap ((i:Int)+(V.length:Int))=(iv:Int):=by rw[IntWalk.i64_in _ (by omega)];omega
 have s2:IntKind.i64.wrap ((iv:Int)+(m:Int))=(tot:Int):=by rw[IntWalk.i64_in _ (by omega)];omega
 have b1:(i:Int)<=k:=by omega
 have b2:(k:Int)<=c:=by omega
 have b3:(k:Int)<=L.length:=by omega
 have b4:(i:Int)<=c:=by omega
 have b6:(iv:Int)<=tot:=by omega
 have b7:(i:Int)<=tot:=by omega
 have q1:¬ c=i:=by omega
 have q3:¬ c=k:=by omega
 have hmk:L.length - k=m:=by omega
 have b5:(tot:Int)<=c:=by omega
 have b9:(iv:Int)<=c:=by omega
 have q2:¬ c=iv:=by omega
 have g1:decide ((c:Int)<(tot:Int))=false:=decide_eq_false (by omega)
 have g2:((c:Int)<(tot:Int))=False:=eq_false (by omega)
 have g3:(c<tot)=False:=eq_false (by omega)
 have l1:decide ((iv:Int)<=(k:Int))=false:=decide_eq_false (by omega)
 have l2:((iv:Int)<=(k:Int))=False:=eq_false (by omega)
 have l3:(iv<=k)=False:=eq_false (by omega)
 unfold maxLen at hcm
 clear hv hu hu1 hg0 hg00 hcp1 hcp2 hg1 hg2 ho1 ho2 hown2 hrow hZ f1 f2 hcv hcd hg hcs hct hiv hm htot hlen hik hne hk hov hub hus hvu hroom
 go_enter Tryz.func250,Tryz.ntmps250
 go_wp2_with fail
 go_region
 have hov:=HV.out
 go_wp2_with (simp only[hov])
 refine wp_region_mixO (fun k=>k=g) 10 (.one [0,1,2,3,4,5,6,7,8] 9 (.done [])) (by kernel_rfl) (fun c d v a w h=>by cases d<;>exact h) (by kernel_rfl) ?_
 simp only[wpMixT,pk_nil,pk_cons,pushAt_zero,pushAt_succ,List.drop_succ_cons,List.drop_zero]
 repeat (go_big_quiet_step (fail))
 refine wpQuiet_nil ?_
 refine wpList_cp_run rfl _ _ _ rfl rfl rfl HC1.out ?_
 go_wp2_with fail
 refine thenQ_normal ⟨⟨⟨_,(Only.refl (fun k=>k=g) w.drew).drew.trans HO1.out⟩,rfl⟩,?_⟩
 refine wpQuiet_nil ?_
 have c2:=HC2.out
 go_wp2_with fail
 all_goals
  go_ret
  have h:=HX.out
  simp only[List.append_assoc] at h ⊢
  first
   | exact⟨.slice (some ⟨g,0,none⟩) tot c,rfl,h.1,h.2.mono (fun k e=>by subst e;rfl),fun k hk=>.inl hk⟩
   |(rw[‹c=tot›] at h
     exact⟨.slice (some ⟨g,0,none⟩) tot tot,rfl,h.1,h.2.mono (fun k e=>by subst e;rfl),fun k hk=>.inl hk⟩)
set_option maxRecDepth 100000 in
set_option maxHeartbeats 4000000 in
theorem rep_grow {i k:Nat} (hv:ROwn encPc 190 3 B w v L) (hB:B<=w.heap.size) (hu:ROwn encPc 190 3 Bu w u V) (hik:i<=k) (hne:i≠k) (hk:k<L.length) (hl:L.length+V.length<=1000000) {g c:Nat} (hvv:v=.slice (some ⟨g,0,none⟩) L.length c) (hroom:c<i+V.length+(L.length - k)) :
  Calls Tryz.prog 250 #[v,.int .i64 i,.int .i64 k,u] w (RepP w B v (L.take i++V++L.drop k)):=by
 rcases pc_open hv with ⟨_,rfl⟩|⟨g',c',cl,e,hBg,hg,hnc,hcm,hcs,hct⟩
 ·simp at hk
 rw[hvv] at e
 cases e
 subst hvv
 have hcv:=cellsPc_len V
 have hcd:(cellsL encPc (L.drop k)).length=(L.length - k)*3:=by rw[cellsPc_len];simp
 obtain⟨iv,hiv⟩:∃ z,z=i+V.length:=⟨_,rfl⟩
 obtain⟨m,hm⟩:∃ z,z=L.length - k:=⟨_,rfl⟩
 obtain⟨tot,htot⟩:∃ z,z=iv+m:=⟨_,rfl⟩
 obtain⟨io,hio,hz0,hzs,hzb⟩:=infoPc
 have hgl:g<w.heap.size:=(Array.getElem?_eq_some_iff.1 hg).1
 have hold:(Builtin.firstCells io.size i (.slice (some ⟨g,0,none⟩) i c)).run Tryz.prog w.drew.drew=.ok (cl.take (i*3)).toArray w.drew.drew:=by
  rw[hzs]
  exact run_firstCells_some w.drew.drew 3 i ⟨g,0,none⟩ i c (cl.take (i*3)) (by rw[List.length_take];omega) (fun j u hj=>by
   rw[Addr.add_lit]
   rw[Nat.zero_add,show w.drew.drew.cell? ⟨g,j,none⟩=cl[j]? from PcRow.cell (w:=w.drew.drew) hg j]
   rw[List.getElem?_take] at hj
   split at hj
   ·exact hj
   ·cases hj)
 obtain⟨G,hG⟩:∃ G,G=grownCap w.drew tot c 190:=⟨_,rfl⟩
 have hG1:tot<=G:=by rw[hG];exact grownCap_ge w.drew _ _ _
 have hG2:G<=9223372036854775807:=by
  have:=grownCap_le_maxLen w.drew tot c 190 (by unfold maxLen;omega)
  rw[<-hG] at this
  unfold maxLen at this
  omega
 have hrz:=fun ty=>Lib.run_append_grow_zeros (P:=Tryz.prog) w.drew 187 3 ty 190 io _ .i64 .i64 Tryz.underlying187 Tryz.underlying3 hio hz0 (some ⟨g,0,none⟩) i c (cl.take (i*3)) hold (tot - i) (by omega) (by omega) (by omega) (by omega) (by rw[hzb];omega) (by rw[hzb,show i+(tot - i)=tot by omega];exact growslice_fits (by omega) (by omega))
 rw[show i+(tot - i)=tot by omega,<-hG,show((tot - i:Nat):Int)=(tot:Int) - i by omega] at hrz
 obtain⟨ROW,hROW⟩:∃ ROW:List Value,ROW.toArray=(cl.take (i*3)).toArray++Builtin.zeroCells (Value.agg #[.int .i64 0,.int .i64 0,.slice none 0 0]).cells (tot - i)++Builtin.zeroCells (Value.agg #[.int .i64 0,.int .i64 0,.slice none 0 0]).cells (G - tot):=⟨Array.toList _,Array.toArray_toList⟩
 rw[<-hROW] at hrz
 have hzc:∀ m,(Builtin.zeroCells (Value.agg #[.int .i64 0,.int .i64 0,.slice none 0 0]).cells m).size=3*m:=fun m=>by simp[Builtin.zeroCells,Value.cells,Nat.mul_comm]
 have hRs:ROW.length=G*3:=by
  have:=congrArg Array.size hROW
  simp only[List.size_toArray,Array.size_append,hzc,List.length_take] at this
  omega
 have hRt:ROW.take (i*3)=cl.take (i*3):=by
  have:=congrArg (fun a=>a.toList.take (i*3)) hROW
  simp only[Array.toList_append,List.append_assoc] at this
  rw[this,List.take_append_of_le_length (by rw[List.length_take];omega),List.take_take,Nat.min_self]
 obtain⟨W1,hW1⟩:∃ W1,W1=w.drew.drew.alloc (.cells ROW.toArray 190):=⟨_,rfl⟩
 rw[<-hW1,show w.drew.heap.size=w.heap.size from rfl] at hrz
 have hB1:Only (fun k=>False) w W1:=by rw[hW1];exact((Only.refl (fun k=>False) w).drew.drew.alloc _)
 have hz1:W1.heap.size=w.heap.size+1:=by rw[hW1];simp
 have hN1:PcRow W1 w.heap.size ROW:=by rw[hW1];exact(MapKept.heap_alloc w.drew.drew _).1
 have hg1:PcRow W1 g cl:=(hB1.block g hgl id).trans hg
 have hu1:ROwn encPc 190 3 Bu W1 u V:=hu.kept (fun q hq=>hB1.block q (hu.lt hq) id)
 obtain⟨W2,hcp1,hN2,hon2⟩:=copyV (o:=i*3) (dLen:=tot - i) (dCap:=G - i) hN1 hu1 (by omega) (by omega)
 have f1:i*3+(cellsL encPc V).length<=ROW.length:=by rw[hcv];omega
 have hg2:PcRow W2.drew g cl:=(hon2.block g (by omega) (by show g≠w.heap.size;omega)).trans hg1
 have hN2':PcRow W2.drew w.heap.size (stL ROW (i*3) (cellsL encPc V)):=hN2
 obtain⟨W3,hcp2,hN3,hon3⟩:=copyS (o:=iv*3) (o':=k*3) (m:=m) (dLen:=tot - iv) (dCap:=G - iv) (sCap:=c - k) (S:=L.drop k) hN2' hg2 (tail_at hct (by omega)) (by simp;omega) (by omega) (by rw[stL_length];omega)
 have f2:iv*3+(cellsL encPc (L.drop k)).length<=(stL ROW (i*3) (cellsL encPc V)).length:=by rw[stL_length,hcd];omega
 have hZ:(L.take i++V++L.drop k).length=tot:=by simp;omega
 have hrow:(stL (stL ROW (i*3) (cellsL encPc V)) (iv*3) (cellsL encPc (L.drop k))).take (tot*3)=cellsL encPc (L.take i++V++L.drop k):=by
  have:=stL_take f2
  rw[hcd,show iv*3+(L.length - k)*3=tot*3 by omega] at this
  have h2:=stL_take f1
  rw[hcv,show i*3+V.length*3=iv*3 by omega] at h2
  rw[this,h2,cellsL_append,cellsL_append,cellsL_take eltPc.len L i (by omega),hRt,<-hct,List.take_take,Nat.min_eq_left (by omega)]
 have hfin:ROwn encPc 190 3 B W3 (.slice (some ⟨w.heap.size,0,none⟩) tot G) (L.take i++V++L.drop k):=by
  have:=pc_mk (L:=L.take i++V++L.drop k) (c:=G) hB hN3 (by rw[hZ];omega) (by unfold maxLen;omega) (by rw[stL_length,stL_length];exact hRs) (by rw[hZ];exact hrow)
  rw[hZ] at this;exact this
 have hfo:Only (fun k=>(Value.slice (some ⟨g,0,none⟩) L.length c).ownBlock=some k) w W3:=
  (hB1.mono fun _ h=>h.elim).then ((hon2.drew).trans (hon3)) (fun k hk hlt=>by have:k=w.heap.size:=hk;omega)
 have HRZ:=qH hrz
 have HC1:=qH hcp1
 have HC2:=qH hcp2
 have HF:=qH hfin
 have HFO:=qH hfo
 have HON3:=qH hon3
 have ne1:((i:Int) ==(k:Int))=false:=by simp;omega
 have ne2:((i:Int)=(k:Int))=False:=eq_false (by omega)
 have ne3:((k:Int) ==(L.length:Int))=false:=by simp;omega
 have ne4:((k:Int)=(L.length:Int))=False:=eq_false (by omega)
 have s1:IntKind.i64.wrap ((i:Int)+(V.length:Int))=(iv:Int):=by rw[IntWalk.i64_in _ (by omega)];omega
 have s2:IntKind.i64.wrap ((iv:Int)+(m:Int))=(tot:Int):=by rw[IntWalk.i64_in _ (by omega)];omega
 have b1:(i:Int)<=k:=by omega
 have b2:(k:Int)<=c:=by omega
 have b3:(k:Int)<=L.length:=by omega
 have b4:(i:Int)<=c:=by omega
 have b6:(iv:Int)<=tot:=by omega
 have b7:(i:Int)<=tot:=by omega
 have q1:¬ c=i:=by omega
 have q3:¬ c=k:=by omega
 have hmk:L.length - k=m:=by omega
 have q2:¬ G=iv:=by omega
 have q4:¬ G=i:=by omega
 have b9:(iv:Int)<=G:=by omega
 have b10:(i:Int)<=G:=by omega
 have g1:decide ((c:Int)<(tot:Int))=true:=decide_eq_true (by omega)
 have g2:((c:Int)<(tot:Int))=True:=eq_true (by omega)
 have g3:(c<tot)=True:=eq_true (by omega)
 have s3:IntKind.i64.wrap ((tot:Int) -(i:Int))=(tot:Int) - i:=IntWalk.i64_in _ (by omega)
 obtain⟨A,cu,rfl,_,_,_⟩:=hu.shape eltPc
 clear hrz hcp1 hcp2 hfin hfo hN3 hon3 hN2' hg2 hN2 hon2 hg1 hN1 hz1 hB1 hW1 hRt hRs hzc hROW hG hold hzb hzs hz0 hio hcs hct hg hv hu hu1 hrow hZ f1 f2 hcv hcd hiv hm htot hik hne hk hroom
 unfold maxLen at hcm
 go_enter Tryz.func250,Tryz.ntmps250
 go_wp2_with fail
 go_region
 have hc1:=HC1.out
 go_wp2_with (at_builtin;refine Lib.wpList_append_run _ rfl _ _ _ _ rfl _ _ rfl rfl _ _ (HRZ.out _) ?_)
 refine wp_region_mixO (fun k=>k=w.heap.size) 10 (.one [0,1,2,3,4,5,6,7,8] 9 (.done [])) (by kernel_rfl) (fun c d v a w h=>by cases d<;>exact h) (by kernel_rfl) ?_
 simp only[wpMixT,pk_nil,pk_cons,pushAt_zero,pushAt_succ,List.drop_succ_cons,List.drop_zero]
 repeat (go_big_quiet_step (fail))
 refine wpQuiet_nil ?_
 refine wpList_cp_run rfl _ _ _ rfl rfl rfl HC2.out ?_
 go_wp2_with fail
 refine thenQ_normal ⟨⟨⟨_,(Only.refl (fun k=>k=w.heap.size) W2).drew.trans HON3.out⟩,rfl⟩,?_⟩
 refine wpQuiet_nil ?_
 go_wp2_with fail
 go_ret
 have h:=HF.out
 simp only[List.append_assoc] at h ⊢
 exact⟨.slice (some ⟨w.heap.size,0,none⟩) tot G,rfl,h,HFO.out,fun k hk=>.inr (by simp[Value.ownBlock] at hk;omega)⟩
end
end Go.Proofs.YtkpoodjhjfmfjaaGreatDoor
namespace Go.Proofs.YtkpoodjhjfmfjaaGreatDoor
open Go.RowKit Go.Lib
open Ovs (PropE encP eltP SortedP)
section
variable {w w' : World} {L V : List PcE} {v u : Value} {B Bu : Nat}
set_option maxRecDepth 100000 in
set_option maxHeartbeats 1000000 in
theorem ins_none (hu:ROwn encPc 190 3 Bu w u V) (hv:ROwn encPc 190 3 B w v []) (hB:B<=w.heap.size) (hl:V.length<=1000000) :
  Calls Tryz.prog 281 #[v,.int .i64 0,u] w (RepP w B v V):=by
 obtain⟨A,c,rfl,hvc,_,_⟩:=hv.shape eltPc
 obtain⟨A',cu,rfl,_,_,hR⟩:=hu.shape eltPc
 by_cases hn:V.length=0
 ·obtain rfl:=List.eq_nil_of_length_eq_zero hn
  have HV:=qH hv
  clear hv hu hR
  go_enter Tryz.func281,Tryz.ntmps281
  go_wp2_with fail
  all_goals
   go_ret
   exact⟨.slice A 0 c,rfl,HV.out,Only.refl _ _,fun k hk=>.inl hk⟩
 ·obtain⟨v',w',hrun,hown,hg,hb⟩:=append_run eltPc hv hB hR cu (by simp;omega) (by omega)
  obtain⟨A2,c2,hv',_,_,_⟩:=hown.shape eltPc
  rw[List.nil_append] at hown hv'
  subst hv'
  have HR:=qH hrun
  have HX:=qH (⟨hown,hg,hb⟩:_/\_/\_)
  have d1:((V.length:Int) == 0)=false:=by simp;intro e;exact hn (by rw[e];rfl)
  have d2:(V.length=0)=False:=eq_false hn
  have d3:(V=[])=False:=eq_false (fun e=>hn (by rw[e];rfl))
  clear hv hu hrun hown hg hb hR
  go_enter Tryz.func281,Tryz.ntmps281
  go_wp2_with (at_builtin;refine wpList_app_run rfl _ _ _ rfl rfl rfl HR.out ?_)
  all_goals
   go_ret
   refine⟨.slice A2 V.length c2,rfl,HX.out.1,⟨HX.out.2.1.os,HX.out.2.1.tape,HX.out.2.1.output,HX.out.2.1.size,fun k hk hn=>HX.out.2.1.block k hk (fun e=>hn e.symm)⟩,fun k hk=>?_⟩
   rcases HX.out.2.2 with h|h
   ·exact .inl (h▸hk)
   ·rw[h] at hk;cases hk;exact .inr (Nat.le_refl _)
set_option maxRecDepth 100000 in
set_option maxHeartbeats 1000000 in
theorem rep_none (hu:ROwn encPc 190 3 Bu w u V) (hv:ROwn encPc 190 3 B w v []) (hB:B<=w.heap.size) (hl:V.length<=1000000) :
  Calls Tryz.prog 250 #[v,.int .i64 0,.int .i64 0,u] w (RepP w B v V):=by
 have HI:=qH (ins_none hu hv hB hl)
 obtain⟨A,c,rfl,hvc,_,_⟩:=hv.shape eltPc
 obtain⟨A',cu,rfl,_,_,hR⟩:=hu.shape eltPc
 clear hv hu hR
 go_enter Tryz.func250,Tryz.ntmps250
 go_wp2_with fail
 all_goals
  refine HI.out.mono ?_
  rintro e w1 ⟨v1,rfl,h⟩
  obtain⟨A1,c1,rfl,_,_,_⟩:=h.1.shape eltPc
  have H:=qH h
  clear h
  go_wp2_with fail
  go_ret
  exact⟨.slice A1 V.length c1,rfl,H.out⟩
theorem rep_any {i k:Nat} (hv:ROwn encPc 190 3 B w v L) (hB:B<=w.heap.size) (hu:ROwn encPc 190 3 Bu w u V) (hvu:∀ q,v.ownBlock=some q->u.ownBlock≠some q) (hik:i<=k) (hk:k<=L.length) (hne:i=k->L=[]) (hl:L.length+V.length<=1000000) :
  Calls Tryz.prog 250 #[v,.int .i64 i,.int .i64 k,u] w (RepP w B v (L.take i++V++L.drop k)):=by
 by_cases h0:i=k
 ·obtain rfl:=hne h0
  simp at hk
  subst hk
  subst h0
  have:=rep_none hu hv hB (by simp at hl;omega)
  simpa using this
 ·have hLn:0<L.length:=by omega
  by_cases hkn:k=L.length
  ·subst hkn
   rw[List.drop_length,List.append_nil]
   by_cases h1:L.length<=i+V.length
   ·exact rep_end hv hB hu (by omega) hl h1
   ·exact rep_cut hv hB hu (by omega) hl (by omega)
  ·by_cases h1:i+V.length<=k
   ·exact rep_shrink hv hu hik h0 (by omega) hl h1
   ·rcases pc_open hv with ⟨_,rfl⟩|⟨g,c,cl,e,_⟩
    ·simp at hLn
    ·by_cases h2:i+V.length+(L.length - k)<=c
     ·exact rep_shift hv hu hvu hik h0 (by omega) hl (by omega) e h2
     ·exact rep_grow hv hB hu hik h0 (by omega) hl e (by omega)
end
end Go.Proofs.YtkpoodjhjfmfjaaGreatDoor
namespace Go.Proofs.YtkpoodjhjfmfjaaGreatDoor
open Go.RowKit Go.Lib
open Ovs (PropE encP eltP SortedP)
section
variable {w w' : World} {N0 B : Nat} {v : Value} {L : List PcE} {R : Nat → Prop} {A : Option Addr}
def ChPost (w:World) (B:Nat) (v:Value) (R:Nat->Prop) (P:List Pc) (e:Ending) (w':World):Prop:=
 ∃ v' L',e=.returned v'/\ROwn encPc 190 3 B w' v' L'/\L'.map PcE.dat=P/\Only (fun k=>v.ownBlock=some k) w w'/\(∀ k,v'.ownBlock=some k->v.ownBlock=some k\/w.heap.size<=k) /\
   ∀ x ∈ L',(RSl encP w' x.A x.ps/\x.ps.length<=x.c)/\∀ g o,x.A=some ⟨g,o,none⟩->0<x.ps.length->(R g\/w.heap.size<=g)/\v'.ownBlock≠some g
theorem map_change {L V:List PcE} {from_ tq:Int} {g:List PropE->List PropE} (h:V.map PcE.dat=changedP ((((L.map PcE.dat).drop (loP (L.map PcE.dat) from_)).take (hiP (L.map PcE.dat) tq - loP (L.map PcE.dat) from_))) from_ tq g) :
  (L.take (loP (L.map PcE.dat) from_)++V++L.drop (hiP (L.map PcE.dat) tq)).map PcE.dat=changeP (L.map PcE.dat) from_ tq g:=by
 rw[List.map_append,List.map_append,List.map_take,List.map_drop,h];rfl
theorem hi_eq {P:List Pc} {from_ tq:Int} (hft:from_<=tq) (h:loP P from_=hiP P tq):P=[]:=by
 have h1:=firstP_le P from_
 have h2:=firstP_le P tq
 unfold loP hiP at h
 have hm:firstP P from_<=firstP P tq:=by
  rcases Nat.lt_or_ge (firstP P tq) (firstP P from_) with hlt|hge
  ·obtain⟨x,hx⟩:∃ x,P[firstP P tq]?=some x:=⟨_,List.getElem?_eq_getElem (by omega)⟩
   have a1:=firstP_lt hlt hx
   have a2:=firstP_at hx
   omega
  ·exact hge
 apply List.eq_nil_of_length_eq_zero
 omega
theorem lo_le_hi {P:List Pc} {from_ tq:Int} (hft:from_<=tq):loP P from_<=hiP P tq/\hiP P tq<=P.length:=by
 have h1:=firstP_le P from_
 have h2:=firstP_le P tq
 unfold loP hiP
 have hm:firstP P from_<=firstP P tq:=by
  rcases Nat.lt_or_ge (firstP P tq) (firstP P from_) with hlt|hge
  ·obtain⟨x,hx⟩:∃ x,P[firstP P tq]?=some x:=⟨_,List.getElem?_eq_getElem (by omega)⟩
   have a1:=firstP_lt hlt hx
   have a2:=firstP_at hx
   omega
  ·exact hge
 omega
set_option maxRecDepth 100000 in
set_option maxHeartbeats 8000000 in
theorem pchange {F:FuncId} {caps:Array Value} {g:List PropE->List PropE} (hF:PFun w F caps g) (hFE:Ovs.Enters F) (hg:KeepsP 64 65 g) (hv:ROwn encPc 190 3 B w v L) (hB:B<=w.heap.size)
  (hL:∀ x ∈ L,RSl encP w x.A x.ps/\(∀ g o,x.A=some ⟨g,o,none⟩->R g)/\x.ps.length<=x.c) (ho:PcsOk (L.map PcE.dat)) (hR:∀ g,R g->g<w.heap.size) (hvR:∀ k,v.ownBlock=some k->¬ R k) (from_ tq:Int) (hft:from_<=tq) (h1:1<=from_) (ht:tq<=65537) :
  Calls Tryz.prog 191 #[v,.int .i64 from_,.int .i64 tq,.func (.func F) #[] caps] w (ChPost w B v R (changeP (L.map PcE.dat) from_ tq g)):=by
 have hlen:L.length<=65536:=by have:=ho.len;simpa using this
 obtain⟨Av,c,hvv,hnc,hcm,hRv⟩:=hv.shape eltPc
 obtain⟨hlh,hhl⟩:=lo_le_hi (P:=L.map PcE.dat) hft
 have he0:=hi_eq (P:=L.map PcE.dat) hft
 rw[List.length_map] at hhl
 have h2:=firstP_le (L.map PcE.dat) from_
 have h3:=firstP_le (L.map PcE.dat) tq
 rw[List.length_map] at h2 h3
 have e1:loP (L.map PcE.dat) from_=firstP (L.map PcE.dat) from_ - 1:=rfl
 have e2:hiP (L.map PcE.dat) tq=min L.length (firstP (L.map PcE.dat) tq+1):=by unfold hiP;rw[List.length_map]
 have hF1:=pfirst ho hRv from_ c (by omega)
 have hF2:=fun(w1:World) (hb:Below w.heap.size w w1)=>pfirst ho (hRv.up hb) tq c (by omega)
 -- the middle,changed
 have hmap:=fun V (h:V.map PcE.dat=_)=>map_change (L:=L) (V:=V) (from_:=from_) (tq:=tq) (g:=g) h
 have hch:=fun(w1:World) (hb:Below w.heap.size w w1) (A':Option Addr) (hA:RSl encPc w A' ((L.drop (loP (L.map PcE.dat) from_)).take (hiP (L.map PcE.dat) tq - loP (L.map PcE.dat) from_)))=>
  pchanged (w:=w1) (L:=(L.drop (loP (L.map PcE.dat) from_)).take (hiP (L.map PcE.dat) tq - loP (L.map PcE.dat) from_)) (R:=R) (hF.up hb) hFE hg (hA.up hb) (fun x hx=>by
   obtain⟨a1,a2,a3⟩:=hL x (List.mem_of_mem_drop (List.mem_of_mem_take hx));exact⟨a1.up hb,a2,a3⟩)
   (by rw[List.map_take,List.map_drop];exact ho.pw.sublist ((List.take_sublist _ _).trans (List.drop_sublist _ _)))
   (fun x hx=>by rw[List.map_take,List.map_drop] at hx;exact ho.ok x (List.mem_of_mem_drop (List.mem_of_mem_take hx)))
   (fun g hg=>Nat.lt_of_lt_of_le (hR g hg) hb.size) (c - loP (L.map PcE.dat) from_) from_ tq hft h1 ht (by simp;omega)
 have hvl:∀ V:List PcE,V.map PcE.dat=changedP ((((L.map PcE.dat).drop (loP (L.map PcE.dat) from_)).take (hiP (L.map PcE.dat) tq - loP (L.map PcE.dat) from_))) from_ tq g->V.length<=65536:=fun V h=>by
  have hc:=(changedP_ok (l:=(((L.map PcE.dat).drop (loP (L.map PcE.dat) from_)).take (hiP (L.map PcE.dat) tq - loP (L.map PcE.dat) from_))) (m:=64) (m':=65) (lo:=1) (hi:=65537) hg (by omega) hft h1 ht h1 (ho.pw.sublist ((List.take_sublist _ _).trans (List.drop_sublist _ _))) (fun x hx=>ho.ok x (List.mem_of_mem_drop (List.mem_of_mem_take hx))) (fun x hx=>(ho.ok x (List.mem_of_mem_drop (List.mem_of_mem_take hx))).f1) ht (fun x hx=>(ho.ok x (List.mem_of_mem_drop (List.mem_of_mem_take hx))).t1)).1.len
  rw[<-h,List.length_map] at hc;exact hc
 obtain⟨fa,hfa⟩:∃ z,z=firstP (L.map PcE.dat) from_:=⟨_,rfl⟩
 obtain⟨fb,hfb⟩:∃ z,z=firstP (L.map PcE.dat) tq:=⟨_,rfl⟩
 obtain⟨lo,hlo⟩:∃ z,z=loP (L.map PcE.dat) from_:=⟨_,rfl⟩
 obtain⟨hi,hhi⟩:∃ z,z=hiP (L.map PcE.dat) tq:=⟨_,rfl⟩
 rw[<-hlo,<-hhi] at hch hmap hlh he0 hvl
 rw[<-hhi] at hhl
 rw[<-hfa] at hF1 h2
 rw[<-hfb] at h3
 simp only[<-hfb] at hF2
 rw[<-hfa,<-hlo] at e1
 rw[<-hfb,<-hhi] at e2
 have hml:((L.drop lo).take (hi - lo)).length=hi - lo:=by simp;omega
 have X:=qH (⟨hv,hRv,hL,hR,hvR,hmap,hB,he0,hvl⟩:_/\_/\_/\_/\_/\_/\_/\_/\_)
 have HF1:=qH hF1
 have HF2:=qH hF2
 have HCH:=qH hch
 have HML:=qH hml
 have HE:=qH (⟨e1,e2⟩:_/\_)
 subst hvv
 unfold maxLen at hcm
 clear hF hFE hg hv hL ho hR hvR hRv hF1 hF2 hch hmap hfa hfb hlo hhi hml he0 e1 e2 hvl
 rcases pc_open X.out.1 with ⟨hv0,hL0⟩|⟨g0,c0,cl0,hv0,_⟩
 ·simp only[Value.slice.injEq] at hv0
  obtain⟨rfl,hx0,hc0⟩:=hv0
  clear hx0
  have hn0:L.length=0:=by rw[hL0];rfl
  clear hL0
  have w1:IntKind.i64.wrap ((fa:Int) - 1)=-1:=by rw[IntWalk.i64_in _ (by omega)];omega
  obtain rfl:lo=0:=by have:=HE.out.1;omega
  simp only[List.drop_zero,Nat.sub_zero,List.take_zero,List.nil_append] at X HCH HML
  have b2:(hi:Int)<=c:=by omega
  have b3:(hi:Int)<=L.length:=by omega
  have w2:IntKind.i64.wrap ((fb:Int)+1)=((fb+1:Nat):Int):=by rw[IntWalk.i64_in _ (by omega)];omega
  obtain rfl:hi=L.length:=by have:=HE.out.2;omega
  have m2:(((fb+1:Nat):Int)<(L.length:Int))=False:=eq_false (by omega)
  have m3:(fb+1<L.length)=False:=eq_false (by omega)
  have ha:fa=0:=by omega
  have hb:¬ fb+1<L.length:=by omega
  clear hn0 hc0
  go_enter Tryz.func191,Tryz.ntmps191
  go_wp2_with fail
  refine HF1.out.mono ?_
  rintro e w1 ⟨rfl,hb1⟩
  have B1:=qH hb1
  have HF2':=qH (HF2.out w1 hb1)
  clear hb1
  go_wp2_with fail
  refine HF2'.out.mono ?_
  rintro e w2 ⟨rfl,hb2⟩
  have B2:=qH (up2 B1.out hb2)
  clear hb2 HF2' B1
  have hc3:=HCH.out w2 B2.out none (X.out.2.1.take eltPc _)
  rw[HML.out] at hc3
  have HC3:=qH hc3
  clear hc3
  go_wp2_with fail
  refine HC3.out.mono ?_
  rintro e w3 ⟨v3,V,rfl,hout,hdat,hb3⟩
  have B3:=qH (up2 B2.out hb3)
  have hVl:=X.out.2.2.2.2.2.2.2.2 V (by simpa only [List.map_take,List.map_drop] using hdat)
  have hv3:=X.out.1.up B3.out
  have hrep:=rep_any (i:=0) (k:=L.length) hv3 (Nat.le_trans X.out.2.2.2.2.2.2.1 B3.out.size) hout.own (fun q h1 h2=>by have a1:=X.out.1.lt h1;have a2:=hout.own.base h2;have a3:=B2.out.size;omega) (by omega) hhl (fun e=>by have:=X.out.2.2.2.2.2.2.2.1 e;simpa using this) (by omega)
  have HP:=qH hrep
  have Y:=qH (⟨hout,hdat,hb3⟩:_/\_/\_)
  obtain⟨A3,c3,rfl,_,_,_⟩:=hout.own.shape eltPc
  clear hout hdat hb3 hv3 hrep HC3
  go_wp2_with fail
  refine HP.out.mono ?_
  rintro e w4 ⟨v4,rfl,hown,hon,hnv⟩
  have Z:=qH (⟨hown,hon,hnv⟩:_/\_/\_)
  obtain⟨A4,c4,e4,_,_,_⟩:=hown.shape eltPc
  generalize (List.take 0 L++V++List.drop L.length L).length=n4 at e4
  subst e4
  clear hown hon hnv HP
  go_wp2_with fail
  go_ret
  have hz:=Z.out
  have hy:=Y.out
  have hx:=X.out
  have hkeep:∀(x:PcE),RSl encP w3 x.A x.ps->x.ps.length<=x.c->(0<x.ps.length->∀ g o,x.A=some ⟨g,o,none⟩->R g\/w.heap.size<=g/\w2.heap.size+3<=g)->(RSl encP w4 x.A x.ps/\x.ps.length<=x.c)/\∀ g o,x.A=some ⟨g,o,none⟩->0<x.ps.length->(R g\/w.heap.size<=g)/\(Value.slice A4 n4 c4).ownBlock≠some g:=fun x hr hc hk=>by
   have hnot:0<x.ps.length->∀ g o,x.A=some ⟨g,o,none⟩->¬(Value.slice none L.length c).ownBlock=some g:=fun hp g o e e2=>by
    rcases hk hp g o e with h|h
    ·exact hx.2.2.2.2.1 g e2 h
    ·have:=hx.1.lt e2;omega
   refine⟨⟨hr.keptP (fun hp g o e=>hz.2.1.block g (hr.lt hp e) (hnot hp g o e)) hz.2.1.size,hc⟩,fun g o e hp=>⟨(hk hp g o e).imp id (fun h=>h.1),fun e2=>?_⟩⟩
   rcases hz.2.2 g e2 with h|h
   ·exact hnot hp g o e h
   ·have:=hr.lt hp e;omega
  refine⟨_,_,rfl,hz.1,?_,?_,fun k hk=>(hz.2.2 k hk).imp id (fun h=>Nat.le_trans B3.out.size h),fun x hxm=>?_⟩
  ·exact hx.2.2.2.2.2.1 V (by simpa only [List.map_take,List.map_drop] using hy.2.1)
  ·exact(Only.of_below B3.out).trans hz.2.1
  ·rcases List.mem_append.1 hxm with hxm|hxm
   ·rcases List.mem_append.1 hxm with hxm|hxm
    ·have hm:=hx.2.2.1 x (List.mem_of_mem_take hxm)
     exact hkeep x (hm.1.up B3.out) hm.2.2 (fun hp g o e=>.inl (hm.2.1 g o e))
    ·have hm:=hy.1.lst x hxm
     exact hkeep x hm.1.1 hm.1.2.2 (fun hp g o e=>(hm.2 hp g o e).1.imp id (fun h=>⟨by have:=B2.out.size;omega,h⟩))
   ·have hm:=hx.2.2.1 x (List.mem_of_mem_drop hxm)
    exact hkeep x (hm.1.up B3.out) hm.2.2 (fun hp g o e=>.inl (hm.2.1 g o e))
 ·simp only[Value.slice.injEq] at hv0
  obtain⟨rfl,_,rfl⟩:=hv0
  by_cases hn0:L.length=0
  ·have w1:IntKind.i64.wrap ((fa:Int) - 1)=-1:=by rw[IntWalk.i64_in _ (by omega)];omega
   obtain rfl:lo=0:=by have:=HE.out.1;omega
   simp only[List.drop_zero,Nat.sub_zero,List.take_zero,List.nil_append] at X HCH HML
   have b2:(hi:Int)<=c:=by omega
   have b3:(hi:Int)<=L.length:=by omega
   have w2:IntKind.i64.wrap ((fb:Int)+1)=((fb+1:Nat):Int):=by rw[IntWalk.i64_in _ (by omega)];omega
   obtain rfl:hi=L.length:=by have:=HE.out.2;omega
   have m2:(((fb+1:Nat):Int)<(L.length:Int))=False:=eq_false (by omega)
   have m3:(fb+1<L.length)=False:=eq_false (by omega)
   have ha:fa=0:=by omega
   have hb:¬ fb+1<L.length:=by omega
   clear hn0
   go_enter Tryz.func191,Tryz.ntmps191
   go_wp2_with fail
   refine HF1.out.mono ?_
   rintro e w1 ⟨rfl,hb1⟩
   have B1:=qH hb1
   have HF2':=qH (HF2.out w1 hb1)
   clear hb1
   go_wp2_with fail
   refine HF2'.out.mono ?_
   rintro e w2 ⟨rfl,hb2⟩
   have B2:=qH (up2 B1.out hb2)
   clear hb2 HF2' B1
   have hc3:=HCH.out w2 B2.out (some ⟨g0,0,none⟩) (X.out.2.1.take eltPc _)
   rw[HML.out] at hc3
   have HC3:=qH hc3
   clear hc3
   go_wp2_with fail
   refine HC3.out.mono ?_
   rintro e w3 ⟨v3,V,rfl,hout,hdat,hb3⟩
   have B3:=qH (up2 B2.out hb3)
   have hVl:=X.out.2.2.2.2.2.2.2.2 V (by simpa only [List.map_take,List.map_drop] using hdat)
   have hv3:=X.out.1.up B3.out
   have hrep:=rep_any (i:=0) (k:=L.length) hv3 (Nat.le_trans X.out.2.2.2.2.2.2.1 B3.out.size) hout.own (fun q h1 h2=>by have a1:=X.out.1.lt h1;have a2:=hout.own.base h2;have a3:=B2.out.size;omega) (by omega) hhl (fun e=>by have:=X.out.2.2.2.2.2.2.2.1 e;simpa using this) (by omega)
   have HP:=qH hrep
   have Y:=qH (⟨hout,hdat,hb3⟩:_/\_/\_)
   obtain⟨A3,c3,rfl,_,_,_⟩:=hout.own.shape eltPc
   clear hout hdat hb3 hv3 hrep HC3
   go_wp2_with fail
   refine HP.out.mono ?_
   rintro e w4 ⟨v4,rfl,hown,hon,hnv⟩
   have Z:=qH (⟨hown,hon,hnv⟩:_/\_/\_)
   obtain⟨A4,c4,e4,_,_,_⟩:=hown.shape eltPc
   generalize (List.take 0 L++V++List.drop L.length L).length=n4 at e4
   subst e4
   clear hown hon hnv HP
   go_wp2_with fail
   go_ret
   have hz:=Z.out
   have hy:=Y.out
   have hx:=X.out
   have hkeep:∀(x:PcE),RSl encP w3 x.A x.ps->x.ps.length<=x.c->(0<x.ps.length->∀ g o,x.A=some ⟨g,o,none⟩->R g\/w.heap.size<=g/\w2.heap.size+3<=g)->(RSl encP w4 x.A x.ps/\x.ps.length<=x.c)/\∀ g o,x.A=some ⟨g,o,none⟩->0<x.ps.length->(R g\/w.heap.size<=g)/\(Value.slice A4 n4 c4).ownBlock≠some g:=fun x hr hc hk=>by
    have hnot:0<x.ps.length->∀ g o,x.A=some ⟨g,o,none⟩->¬(Value.slice (some ⟨g0,0,none⟩) L.length c).ownBlock=some g:=fun hp g o e e2=>by
     rcases hk hp g o e with h|h
     ·exact hx.2.2.2.2.1 g e2 h
     ·have:=hx.1.lt e2;omega
    refine⟨⟨hr.keptP (fun hp g o e=>hz.2.1.block g (hr.lt hp e) (hnot hp g o e)) hz.2.1.size,hc⟩,fun g o e hp=>⟨(hk hp g o e).imp id (fun h=>h.1),fun e2=>?_⟩⟩
    rcases hz.2.2 g e2 with h|h
    ·exact hnot hp g o e h
    ·have:=hr.lt hp e;omega
   refine⟨_,_,rfl,hz.1,?_,?_,fun k hk=>(hz.2.2 k hk).imp id (fun h=>Nat.le_trans B3.out.size h),fun x hxm=>?_⟩
   ·exact hx.2.2.2.2.2.1 V (by simpa only [List.map_take,List.map_drop] using hy.2.1)
   ·exact(Only.of_below B3.out).trans hz.2.1
   ·rcases List.mem_append.1 hxm with hxm|hxm
    ·rcases List.mem_append.1 hxm with hxm|hxm
     ·have hm:=hx.2.2.1 x (List.mem_of_mem_take hxm)
      exact hkeep x (hm.1.up B3.out) hm.2.2 (fun hp g o e=>.inl (hm.2.1 g o e))
     ·have hm:=hy.1.lst x hxm
      exact hkeep x hm.1.1 hm.1.2.2 (fun hp g o e=>(hm.2 hp g o e).1.imp id (fun h=>⟨by have:=B2.out.size;omega,h⟩))
    ·have hm:=hx.2.2.1 x (List.mem_of_mem_drop hxm)
     exact hkeep x (hm.1.up B3.out) hm.2.2 (fun hp g o e=>.inl (hm.2.1 g o e))
  ·by_cases ha:fa=0
   ·by_cases hb:fb+1<L.length
    ·have w1:IntKind.i64.wrap ((fa:Int) - 1)=-1:=by rw[IntWalk.i64_in _ (by omega)];omega
     obtain rfl:lo=0:=by have:=HE.out.1;omega
     simp only[List.drop_zero,Nat.sub_zero,List.take_zero,List.nil_append] at X HCH HML
     have b2:(hi:Int)<=c:=by omega
     have b3:(hi:Int)<=L.length:=by omega
     have w2:IntKind.i64.wrap ((fb:Int)+1)=((fb+1:Nat):Int):=by rw[IntWalk.i64_in _ (by omega)];omega
     obtain rfl:hi=fb+1:=by have:=HE.out.2;omega
     have m1:decide (((fb+1:Nat):Int)<(L.length:Int))=true:=decide_eq_true (by omega)
     have m2:(((fb+1:Nat):Int)<(L.length:Int))=True:=eq_true (by omega)
     have m3:(fb+1<L.length)=True:=eq_true (by omega)
     have m4:((L.length:Int)<((fb+1:Nat):Int))=False:=eq_false (by omega)
     have m5:(L.length<fb+1)=False:=eq_false (by omega)
     go_enter Tryz.func191,Tryz.ntmps191
     go_wp2_with fail
     refine HF1.out.mono ?_
     rintro e w1 ⟨rfl,hb1⟩
     have B1:=qH hb1
     have HF2':=qH (HF2.out w1 hb1)
     clear hb1
     go_wp2_with fail
     refine HF2'.out.mono ?_
     rintro e w2 ⟨rfl,hb2⟩
     have B2:=qH (up2 B1.out hb2)
     clear hb2 HF2' B1
     have hc3:=HCH.out w2 B2.out (some ⟨g0,0,none⟩) (X.out.2.1.take eltPc _)
     rw[HML.out] at hc3
     have HC3:=qH hc3
     clear hc3
     go_wp2_with fail
     refine HC3.out.mono ?_
     rintro e w3 ⟨v3,V,rfl,hout,hdat,hb3⟩
     have B3:=qH (up2 B2.out hb3)
     have hVl:=X.out.2.2.2.2.2.2.2.2 V (by simpa only [List.map_take,List.map_drop] using hdat)
     have hv3:=X.out.1.up B3.out
     have hrep:=rep_any (i:=0) (k:=(fb+1)) hv3 (Nat.le_trans X.out.2.2.2.2.2.2.1 B3.out.size) hout.own (fun q h1 h2=>by have a1:=X.out.1.lt h1;have a2:=hout.own.base h2;have a3:=B2.out.size;omega) (by omega) hhl (fun e=>by have:=X.out.2.2.2.2.2.2.2.1 e;simpa using this) (by omega)
     have HP:=qH hrep
     have Y:=qH (⟨hout,hdat,hb3⟩:_/\_/\_)
     obtain⟨A3,c3,rfl,_,_,_⟩:=hout.own.shape eltPc
     clear hout hdat hb3 hv3 hrep HC3
     go_wp2_with fail
     refine HP.out.mono ?_
     rintro e w4 ⟨v4,rfl,hown,hon,hnv⟩
     have Z:=qH (⟨hown,hon,hnv⟩:_/\_/\_)
     obtain⟨A4,c4,e4,_,_,_⟩:=hown.shape eltPc
     generalize (List.take 0 L++V++List.drop (fb+1) L).length=n4 at e4
     subst e4
     clear hown hon hnv HP
     go_wp2_with fail
     go_ret
     have hz:=Z.out
     have hy:=Y.out
     have hx:=X.out
     have hkeep:∀(x:PcE),RSl encP w3 x.A x.ps->x.ps.length<=x.c->(0<x.ps.length->∀ g o,x.A=some ⟨g,o,none⟩->R g\/w.heap.size<=g/\w2.heap.size+3<=g)->(RSl encP w4 x.A x.ps/\x.ps.length<=x.c)/\∀ g o,x.A=some ⟨g,o,none⟩->0<x.ps.length->(R g\/w.heap.size<=g)/\(Value.slice A4 n4 c4).ownBlock≠some g:=fun x hr hc hk=>by
      have hnot:0<x.ps.length->∀ g o,x.A=some ⟨g,o,none⟩->¬(Value.slice (some ⟨g0,0,none⟩) L.length c).ownBlock=some g:=fun hp g o e e2=>by
       rcases hk hp g o e with h|h
       ·exact hx.2.2.2.2.1 g e2 h
       ·have:=hx.1.lt e2;omega
      refine⟨⟨hr.keptP (fun hp g o e=>hz.2.1.block g (hr.lt hp e) (hnot hp g o e)) hz.2.1.size,hc⟩,fun g o e hp=>⟨(hk hp g o e).imp id (fun h=>h.1),fun e2=>?_⟩⟩
      rcases hz.2.2 g e2 with h|h
      ·exact hnot hp g o e h
      ·have:=hr.lt hp e;omega
     refine⟨_,_,rfl,hz.1,?_,?_,fun k hk=>(hz.2.2 k hk).imp id (fun h=>Nat.le_trans B3.out.size h),fun x hxm=>?_⟩
     ·exact hx.2.2.2.2.2.1 V (by simpa only [List.map_take,List.map_drop] using hy.2.1)
     ·exact(Only.of_below B3.out).trans hz.2.1
     ·rcases List.mem_append.1 hxm with hxm|hxm
      ·rcases List.mem_append.1 hxm with hxm|hxm
       ·have hm:=hx.2.2.1 x (List.mem_of_mem_take hxm)
        exact hkeep x (hm.1.up B3.out) hm.2.2 (fun hp g o e=>.inl (hm.2.1 g o e))
       ·have hm:=hy.1.lst x hxm
        exact hkeep x hm.1.1 hm.1.2.2 (fun hp g o e=>(hm.2 hp g o e).1.imp id (fun h=>⟨by have:=B2.out.size;omega,h⟩))
      ·have hm:=hx.2.2.1 x (List.mem_of_mem_drop hxm)
       exact hkeep x (hm.1.up B3.out) hm.2.2 (fun hp g o e=>.inl (hm.2.1 g o e))
    ·have w1:IntKind.i64.wrap ((fa:Int) - 1)=-1:=by rw[IntWalk.i64_in _ (by omega)];omega
     obtain rfl:lo=0:=by have:=HE.out.1;omega
     simp only[List.drop_zero,Nat.sub_zero,List.take_zero,List.nil_append] at X HCH HML
     have b2:(hi:Int)<=c:=by omega
     have b3:(hi:Int)<=L.length:=by omega
     have w2:IntKind.i64.wrap ((fb:Int)+1)=((fb+1:Nat):Int):=by rw[IntWalk.i64_in _ (by omega)];omega
     obtain rfl:hi=L.length:=by have:=HE.out.2;omega
     have m2:(((fb+1:Nat):Int)<(L.length:Int))=False:=eq_false (by omega)
     have m3:(fb+1<L.length)=False:=eq_false (by omega)
     go_enter Tryz.func191,Tryz.ntmps191
     go_wp2_with fail
     refine HF1.out.mono ?_
     rintro e w1 ⟨rfl,hb1⟩
     have B1:=qH hb1
     have HF2':=qH (HF2.out w1 hb1)
     clear hb1
     go_wp2_with fail
     refine HF2'.out.mono ?_
     rintro e w2 ⟨rfl,hb2⟩
     have B2:=qH (up2 B1.out hb2)
     clear hb2 HF2' B1
     have hc3:=HCH.out w2 B2.out (some ⟨g0,0,none⟩) (X.out.2.1.take eltPc _)
     rw[HML.out] at hc3
     have HC3:=qH hc3
     clear hc3
     go_wp2_with fail
     refine HC3.out.mono ?_
     rintro e w3 ⟨v3,V,rfl,hout,hdat,hb3⟩
     have B3:=qH (up2 B2.out hb3)
     have hVl:=X.out.2.2.2.2.2.2.2.2 V (by simpa only [List.map_take,List.map_drop] using hdat)
     have hv3:=X.out.1.up B3.out
     have hrep:=rep_any (i:=0) (k:=L.length) hv3 (Nat.le_trans X.out.2.2.2.2.2.2.1 B3.out.size) hout.own (fun q h1 h2=>by have a1:=X.out.1.lt h1;have a2:=hout.own.base h2;have a3:=B2.out.size;omega) (by omega) hhl (fun e=>by have:=X.out.2.2.2.2.2.2.2.1 e;simpa using this) (by omega)
     have HP:=qH hrep
     have Y:=qH (⟨hout,hdat,hb3⟩:_/\_/\_)
     obtain⟨A3,c3,rfl,_,_,_⟩:=hout.own.shape eltPc
     clear hout hdat hb3 hv3 hrep HC3
     go_wp2_with fail
     refine HP.out.mono ?_
     rintro e w4 ⟨v4,rfl,hown,hon,hnv⟩
     have Z:=qH (⟨hown,hon,hnv⟩:_/\_/\_)
     obtain⟨A4,c4,e4,_,_,_⟩:=hown.shape eltPc
     generalize (List.take 0 L++V++List.drop L.length L).length=n4 at e4
     subst e4
     clear hown hon hnv HP
     go_wp2_with fail
     go_ret
     have hz:=Z.out
     have hy:=Y.out
     have hx:=X.out
     have hkeep:∀(x:PcE),RSl encP w3 x.A x.ps->x.ps.length<=x.c->(0<x.ps.length->∀ g o,x.A=some ⟨g,o,none⟩->R g\/w.heap.size<=g/\w2.heap.size+3<=g)->(RSl encP w4 x.A x.ps/\x.ps.length<=x.c)/\∀ g o,x.A=some ⟨g,o,none⟩->0<x.ps.length->(R g\/w.heap.size<=g)/\(Value.slice A4 n4 c4).ownBlock≠some g:=fun x hr hc hk=>by
      have hnot:0<x.ps.length->∀ g o,x.A=some ⟨g,o,none⟩->¬(Value.slice (some ⟨g0,0,none⟩) L.length c).ownBlock=some g:=fun hp g o e e2=>by
       rcases hk hp g o e with h|h
       ·exact hx.2.2.2.2.1 g e2 h
       ·have:=hx.1.lt e2;omega
      refine⟨⟨hr.keptP (fun hp g o e=>hz.2.1.block g (hr.lt hp e) (hnot hp g o e)) hz.2.1.size,hc⟩,fun g o e hp=>⟨(hk hp g o e).imp id (fun h=>h.1),fun e2=>?_⟩⟩
      rcases hz.2.2 g e2 with h|h
      ·exact hnot hp g o e h
      ·have:=hr.lt hp e;omega
     refine⟨_,_,rfl,hz.1,?_,?_,fun k hk=>(hz.2.2 k hk).imp id (fun h=>Nat.le_trans B3.out.size h),fun x hxm=>?_⟩
     ·exact hx.2.2.2.2.2.1 V (by simpa only [List.map_take,List.map_drop] using hy.2.1)
     ·exact(Only.of_below B3.out).trans hz.2.1
     ·rcases List.mem_append.1 hxm with hxm|hxm
      ·rcases List.mem_append.1 hxm with hxm|hxm
       ·have hm:=hx.2.2.1 x (List.mem_of_mem_take hxm)
        exact hkeep x (hm.1.up B3.out) hm.2.2 (fun hp g o e=>.inl (hm.2.1 g o e))
       ·have hm:=hy.1.lst x hxm
        exact hkeep x hm.1.1 hm.1.2.2 (fun hp g o e=>(hm.2 hp g o e).1.imp id (fun h=>⟨by have:=B2.out.size;omega,h⟩))
      ·have hm:=hx.2.2.1 x (List.mem_of_mem_drop hxm)
       exact hkeep x (hm.1.up B3.out) hm.2.2 (fun hp g o e=>.inl (hm.2.1 g o e))
   ·by_cases ha2:fa=1
    ·by_cases hb:fb+1<L.length
     ·have w1:IntKind.i64.wrap ((fa:Int) - 1)=0:=by rw[IntWalk.i64_in _ (by omega)];omega
      obtain rfl:lo=0:=by have:=HE.out.1;omega
      simp only[List.drop_zero,Nat.sub_zero,List.take_zero,List.nil_append] at X HCH HML
      have b2:(hi:Int)<=c:=by omega
      have b3:(hi:Int)<=L.length:=by omega
      have w2:IntKind.i64.wrap ((fb:Int)+1)=((fb+1:Nat):Int):=by rw[IntWalk.i64_in _ (by omega)];omega
      obtain rfl:hi=fb+1:=by have:=HE.out.2;omega
      have m1:decide (((fb+1:Nat):Int)<(L.length:Int))=true:=decide_eq_true (by omega)
      have m2:(((fb+1:Nat):Int)<(L.length:Int))=True:=eq_true (by omega)
      have m3:(fb+1<L.length)=True:=eq_true (by omega)
      have m4:((L.length:Int)<((fb+1:Nat):Int))=False:=eq_false (by omega)
      have m5:(L.length<fb+1)=False:=eq_false (by omega)
      go_enter Tryz.func191,Tryz.ntmps191
      go_wp2_with fail
      refine HF1.out.mono ?_
      rintro e w1 ⟨rfl,hb1⟩
      have B1:=qH hb1
      have HF2':=qH (HF2.out w1 hb1)
      clear hb1
      go_wp2_with fail
      refine HF2'.out.mono ?_
      rintro e w2 ⟨rfl,hb2⟩
      have B2:=qH (up2 B1.out hb2)
      clear hb2 HF2' B1
      have hc3:=HCH.out w2 B2.out (some ⟨g0,0,none⟩) (X.out.2.1.take eltPc _)
      rw[HML.out] at hc3
      have HC3:=qH hc3
      clear hc3
      go_wp2_with fail
      refine HC3.out.mono ?_
      rintro e w3 ⟨v3,V,rfl,hout,hdat,hb3⟩
      have B3:=qH (up2 B2.out hb3)
      have hVl:=X.out.2.2.2.2.2.2.2.2 V (by simpa only [List.map_take,List.map_drop] using hdat)
      have hv3:=X.out.1.up B3.out
      have hrep:=rep_any (i:=0) (k:=(fb+1)) hv3 (Nat.le_trans X.out.2.2.2.2.2.2.1 B3.out.size) hout.own (fun q h1 h2=>by have a1:=X.out.1.lt h1;have a2:=hout.own.base h2;have a3:=B2.out.size;omega) (by omega) hhl (fun e=>by have:=X.out.2.2.2.2.2.2.2.1 e;simpa using this) (by omega)
      have HP:=qH hrep
      have Y:=qH (⟨hout,hdat,hb3⟩:_/\_/\_)
      obtain⟨A3,c3,rfl,_,_,_⟩:=hout.own.shape eltPc
      clear hout hdat hb3 hv3 hrep HC3
      go_wp2_with fail
      refine HP.out.mono ?_
      rintro e w4 ⟨v4,rfl,hown,hon,hnv⟩
      have Z:=qH (⟨hown,hon,hnv⟩:_/\_/\_)
      obtain⟨A4,c4,e4,_,_,_⟩:=hown.shape eltPc
      generalize (List.take 0 L++V++List.drop (fb+1) L).length=n4 at e4
      subst e4
      clear hown hon hnv HP
      go_wp2_with fail
      go_ret
      have hz:=Z.out
      have hy:=Y.out
      have hx:=X.out
      have hkeep:∀(x:PcE),RSl encP w3 x.A x.ps->x.ps.length<=x.c->(0<x.ps.length->∀ g o,x.A=some ⟨g,o,none⟩->R g\/w.heap.size<=g/\w2.heap.size+3<=g)->(RSl encP w4 x.A x.ps/\x.ps.length<=x.c)/\∀ g o,x.A=some ⟨g,o,none⟩->0<x.ps.length->(R g\/w.heap.size<=g)/\(Value.slice A4 n4 c4).ownBlock≠some g:=fun x hr hc hk=>by
       have hnot:0<x.ps.length->∀ g o,x.A=some ⟨g,o,none⟩->¬(Value.slice (some ⟨g0,0,none⟩) L.length c).ownBlock=some g:=fun hp g o e e2=>by
        rcases hk hp g o e with h|h
        ·exact hx.2.2.2.2.1 g e2 h
        ·have:=hx.1.lt e2;omega
       refine⟨⟨hr.keptP (fun hp g o e=>hz.2.1.block g (hr.lt hp e) (hnot hp g o e)) hz.2.1.size,hc⟩,fun g o e hp=>⟨(hk hp g o e).imp id (fun h=>h.1),fun e2=>?_⟩⟩
       rcases hz.2.2 g e2 with h|h
       ·exact hnot hp g o e h
       ·have:=hr.lt hp e;omega
      refine⟨_,_,rfl,hz.1,?_,?_,fun k hk=>(hz.2.2 k hk).imp id (fun h=>Nat.le_trans B3.out.size h),fun x hxm=>?_⟩
      ·exact hx.2.2.2.2.2.1 V (by simpa only [List.map_take,List.map_drop] using hy.2.1)
      ·exact(Only.of_below B3.out).trans hz.2.1
      ·rcases List.mem_append.1 hxm with hxm|hxm
       ·rcases List.mem_append.1 hxm with hxm|hxm
        ·have hm:=hx.2.2.1 x (List.mem_of_mem_take hxm)
         exact hkeep x (hm.1.up B3.out) hm.2.2 (fun hp g o e=>.inl (hm.2.1 g o e))
        ·have hm:=hy.1.lst x hxm
         exact hkeep x hm.1.1 hm.1.2.2 (fun hp g o e=>(hm.2 hp g o e).1.imp id (fun h=>⟨by have:=B2.out.size;omega,h⟩))
       ·have hm:=hx.2.2.1 x (List.mem_of_mem_drop hxm)
        exact hkeep x (hm.1.up B3.out) hm.2.2 (fun hp g o e=>.inl (hm.2.1 g o e))
     ·have w1:IntKind.i64.wrap ((fa:Int) - 1)=0:=by rw[IntWalk.i64_in _ (by omega)];omega
      obtain rfl:lo=0:=by have:=HE.out.1;omega
      simp only[List.drop_zero,Nat.sub_zero,List.take_zero,List.nil_append] at X HCH HML
      have b2:(hi:Int)<=c:=by omega
      have b3:(hi:Int)<=L.length:=by omega
      have w2:IntKind.i64.wrap ((fb:Int)+1)=((fb+1:Nat):Int):=by rw[IntWalk.i64_in _ (by omega)];omega
      obtain rfl:hi=L.length:=by have:=HE.out.2;omega
      have m2:(((fb+1:Nat):Int)<(L.length:Int))=False:=eq_false (by omega)
      have m3:(fb+1<L.length)=False:=eq_false (by omega)
      go_enter Tryz.func191,Tryz.ntmps191
      go_wp2_with fail
      refine HF1.out.mono ?_
      rintro e w1 ⟨rfl,hb1⟩
      have B1:=qH hb1
      have HF2':=qH (HF2.out w1 hb1)
      clear hb1
      go_wp2_with fail
      refine HF2'.out.mono ?_
      rintro e w2 ⟨rfl,hb2⟩
      have B2:=qH (up2 B1.out hb2)
      clear hb2 HF2' B1
      have hc3:=HCH.out w2 B2.out (some ⟨g0,0,none⟩) (X.out.2.1.take eltPc _)
      rw[HML.out] at hc3
      have HC3:=qH hc3
      clear hc3
      go_wp2_with fail
      refine HC3.out.mono ?_
      rintro e w3 ⟨v3,V,rfl,hout,hdat,hb3⟩
      have B3:=qH (up2 B2.out hb3)
      have hVl:=X.out.2.2.2.2.2.2.2.2 V (by simpa only [List.map_take,List.map_drop] using hdat)
      have hv3:=X.out.1.up B3.out
      have hrep:=rep_any (i:=0) (k:=L.length) hv3 (Nat.le_trans X.out.2.2.2.2.2.2.1 B3.out.size) hout.own (fun q h1 h2=>by have a1:=X.out.1.lt h1;have a2:=hout.own.base h2;have a3:=B2.out.size;omega) (by omega) hhl (fun e=>by have:=X.out.2.2.2.2.2.2.2.1 e;simpa using this) (by omega)
      have HP:=qH hrep
      have Y:=qH (⟨hout,hdat,hb3⟩:_/\_/\_)
      obtain⟨A3,c3,rfl,_,_,_⟩:=hout.own.shape eltPc
      clear hout hdat hb3 hv3 hrep HC3
      go_wp2_with fail
      refine HP.out.mono ?_
      rintro e w4 ⟨v4,rfl,hown,hon,hnv⟩
      have Z:=qH (⟨hown,hon,hnv⟩:_/\_/\_)
      obtain⟨A4,c4,e4,_,_,_⟩:=hown.shape eltPc
      generalize (List.take 0 L++V++List.drop L.length L).length=n4 at e4
      subst e4
      clear hown hon hnv HP
      go_wp2_with fail
      go_ret
      have hz:=Z.out
      have hy:=Y.out
      have hx:=X.out
      have hkeep:∀(x:PcE),RSl encP w3 x.A x.ps->x.ps.length<=x.c->(0<x.ps.length->∀ g o,x.A=some ⟨g,o,none⟩->R g\/w.heap.size<=g/\w2.heap.size+3<=g)->(RSl encP w4 x.A x.ps/\x.ps.length<=x.c)/\∀ g o,x.A=some ⟨g,o,none⟩->0<x.ps.length->(R g\/w.heap.size<=g)/\(Value.slice A4 n4 c4).ownBlock≠some g:=fun x hr hc hk=>by
       have hnot:0<x.ps.length->∀ g o,x.A=some ⟨g,o,none⟩->¬(Value.slice (some ⟨g0,0,none⟩) L.length c).ownBlock=some g:=fun hp g o e e2=>by
        rcases hk hp g o e with h|h
        ·exact hx.2.2.2.2.1 g e2 h
        ·have:=hx.1.lt e2;omega
       refine⟨⟨hr.keptP (fun hp g o e=>hz.2.1.block g (hr.lt hp e) (hnot hp g o e)) hz.2.1.size,hc⟩,fun g o e hp=>⟨(hk hp g o e).imp id (fun h=>h.1),fun e2=>?_⟩⟩
       rcases hz.2.2 g e2 with h|h
       ·exact hnot hp g o e h
       ·have:=hr.lt hp e;omega
      refine⟨_,_,rfl,hz.1,?_,?_,fun k hk=>(hz.2.2 k hk).imp id (fun h=>Nat.le_trans B3.out.size h),fun x hxm=>?_⟩
      ·exact hx.2.2.2.2.2.1 V (by simpa only [List.map_take,List.map_drop] using hy.2.1)
      ·exact(Only.of_below B3.out).trans hz.2.1
      ·rcases List.mem_append.1 hxm with hxm|hxm
       ·rcases List.mem_append.1 hxm with hxm|hxm
        ·have hm:=hx.2.2.1 x (List.mem_of_mem_take hxm)
         exact hkeep x (hm.1.up B3.out) hm.2.2 (fun hp g o e=>.inl (hm.2.1 g o e))
        ·have hm:=hy.1.lst x hxm
         exact hkeep x hm.1.1 hm.1.2.2 (fun hp g o e=>(hm.2 hp g o e).1.imp id (fun h=>⟨by have:=B2.out.size;omega,h⟩))
       ·have hm:=hx.2.2.1 x (List.mem_of_mem_drop hxm)
        exact hkeep x (hm.1.up B3.out) hm.2.2 (fun hp g o e=>.inl (hm.2.1 g o e))
    ·by_cases hb:fb+1<L.length
     ·have w1:IntKind.i64.wrap ((fa:Int) - 1)=(lo:Int):=by rw[IntWalk.i64_in _ (by omega)];have:=HE.out.1;omega
      have g1:decide ((0:Int)<(lo:Int))=true:=decide_eq_true (by have:=HE.out.1;omega)
      have g2:(0<lo)=True:=eq_true (by have:=HE.out.1;omega)
      have g3:((0:Int)<(lo:Int))=True:=eq_true (by have:=HE.out.1;omega)
      have q1:¬ c=lo:=by have:=HE.out.1;omega
      have b1:(lo:Int)<=hi:=by omega
      have b2:(hi:Int)<=c:=by omega
      have b3:(hi:Int)<=L.length:=by omega
      have w2:IntKind.i64.wrap ((fb:Int)+1)=((fb+1:Nat):Int):=by rw[IntWalk.i64_in _ (by omega)];omega
      obtain rfl:hi=fb+1:=by have:=HE.out.2;omega
      have m1:decide (((fb+1:Nat):Int)<(L.length:Int))=true:=decide_eq_true (by omega)
      have m2:(((fb+1:Nat):Int)<(L.length:Int))=True:=eq_true (by omega)
      have m3:(fb+1<L.length)=True:=eq_true (by omega)
      have m4:((L.length:Int)<((fb+1:Nat):Int))=False:=eq_false (by omega)
      have m5:(L.length<fb+1)=False:=eq_false (by omega)
      go_enter Tryz.func191,Tryz.ntmps191
      go_wp2_with fail
      refine HF1.out.mono ?_
      rintro e w1 ⟨rfl,hb1⟩
      have B1:=qH hb1
      have HF2':=qH (HF2.out w1 hb1)
      clear hb1
      go_wp2_with fail
      refine HF2'.out.mono ?_
      rintro e w2 ⟨rfl,hb2⟩
      have B2:=qH (up2 B1.out hb2)
      clear hb2 HF2' B1
      have hc3:=HCH.out w2 B2.out (some ⟨g0,lo*3,none⟩) (by have h:=(X.out.2.1.drop eltPc (n:=lo) (cap:=c) (by omega) hnc).take eltPc ((fb+1) - lo);rw[if_neg q1] at h;simp only[Option.map_some,Addr.add,Nat.zero_add] at h;first|exact h|(rw[if_neg (show ¬ lo*3=0 by have:=HE.out.1;omega)] at h;exact h))
      rw[HML.out] at hc3
      have HC3:=qH hc3
      clear hc3
      go_wp2_with fail
      refine HC3.out.mono ?_
      rintro e w3 ⟨v3,V,rfl,hout,hdat,hb3⟩
      have B3:=qH (up2 B2.out hb3)
      have hVl:=X.out.2.2.2.2.2.2.2.2 V (by simpa only [List.map_take,List.map_drop] using hdat)
      have hv3:=X.out.1.up B3.out
      have hrep:=rep_any (i:=lo) (k:=(fb+1)) hv3 (Nat.le_trans X.out.2.2.2.2.2.2.1 B3.out.size) hout.own (fun q h1 h2=>by have a1:=X.out.1.lt h1;have a2:=hout.own.base h2;have a3:=B2.out.size;omega) (by omega) hhl (fun e=>by have:=X.out.2.2.2.2.2.2.2.1 e;simpa using this) (by omega)
      have HP:=qH hrep
      have Y:=qH (⟨hout,hdat,hb3⟩:_/\_/\_)
      obtain⟨A3,c3,rfl,_,_,_⟩:=hout.own.shape eltPc
      clear hout hdat hb3 hv3 hrep HC3
      go_wp2_with fail
      refine HP.out.mono ?_
      rintro e w4 ⟨v4,rfl,hown,hon,hnv⟩
      have Z:=qH (⟨hown,hon,hnv⟩:_/\_/\_)
      obtain⟨A4,c4,e4,_,_,_⟩:=hown.shape eltPc
      generalize (List.take lo L++V++List.drop (fb+1) L).length=n4 at e4
      subst e4
      clear hown hon hnv HP
      go_wp2_with fail
      go_ret
      have hz:=Z.out
      have hy:=Y.out
      have hx:=X.out
      have hkeep:∀(x:PcE),RSl encP w3 x.A x.ps->x.ps.length<=x.c->(0<x.ps.length->∀ g o,x.A=some ⟨g,o,none⟩->R g\/w.heap.size<=g/\w2.heap.size+3<=g)->(RSl encP w4 x.A x.ps/\x.ps.length<=x.c)/\∀ g o,x.A=some ⟨g,o,none⟩->0<x.ps.length->(R g\/w.heap.size<=g)/\(Value.slice A4 n4 c4).ownBlock≠some g:=fun x hr hc hk=>by
       have hnot:0<x.ps.length->∀ g o,x.A=some ⟨g,o,none⟩->¬(Value.slice (some ⟨g0,0,none⟩) L.length c).ownBlock=some g:=fun hp g o e e2=>by
        rcases hk hp g o e with h|h
        ·exact hx.2.2.2.2.1 g e2 h
        ·have:=hx.1.lt e2;omega
       refine⟨⟨hr.keptP (fun hp g o e=>hz.2.1.block g (hr.lt hp e) (hnot hp g o e)) hz.2.1.size,hc⟩,fun g o e hp=>⟨(hk hp g o e).imp id (fun h=>h.1),fun e2=>?_⟩⟩
       rcases hz.2.2 g e2 with h|h
       ·exact hnot hp g o e h
       ·have:=hr.lt hp e;omega
      refine⟨_,_,rfl,hz.1,?_,?_,fun k hk=>(hz.2.2 k hk).imp id (fun h=>Nat.le_trans B3.out.size h),fun x hxm=>?_⟩
      ·exact hx.2.2.2.2.2.1 V (by simpa only [List.map_take,List.map_drop] using hy.2.1)
      ·exact(Only.of_below B3.out).trans hz.2.1
      ·rcases List.mem_append.1 hxm with hxm|hxm
       ·rcases List.mem_append.1 hxm with hxm|hxm
        ·have hm:=hx.2.2.1 x (List.mem_of_mem_take hxm)
         exact hkeep x (hm.1.up B3.out) hm.2.2 (fun hp g o e=>.inl (hm.2.1 g o e))
        ·have hm:=hy.1.lst x hxm
         exact hkeep x hm.1.1 hm.1.2.2 (fun hp g o e=>(hm.2 hp g o e).1.imp id (fun h=>⟨by have:=B2.out.size;omega,h⟩))
       ·have hm:=hx.2.2.1 x (List.mem_of_mem_drop hxm)
        exact hkeep x (hm.1.up B3.out) hm.2.2 (fun hp g o e=>.inl (hm.2.1 g o e))
     ·have w1:IntKind.i64.wrap ((fa:Int) - 1)=(lo:Int):=by rw[IntWalk.i64_in _ (by omega)];have:=HE.out.1;omega
      have g1:decide ((0:Int)<(lo:Int))=true:=decide_eq_true (by have:=HE.out.1;omega)
      have g2:(0<lo)=True:=eq_true (by have:=HE.out.1;omega)
      have g3:((0:Int)<(lo:Int))=True:=eq_true (by have:=HE.out.1;omega)
      have q1:¬ c=lo:=by have:=HE.out.1;omega
      have b1:(lo:Int)<=hi:=by omega
      have b2:(hi:Int)<=c:=by omega
      have b3:(hi:Int)<=L.length:=by omega
      have w2:IntKind.i64.wrap ((fb:Int)+1)=((fb+1:Nat):Int):=by rw[IntWalk.i64_in _ (by omega)];omega
      obtain rfl:hi=L.length:=by have:=HE.out.2;omega
      have m2:(((fb+1:Nat):Int)<(L.length:Int))=False:=eq_false (by omega)
      have m3:(fb+1<L.length)=False:=eq_false (by omega)
      go_enter Tryz.func191,Tryz.ntmps191
      go_wp2_with fail
      refine HF1.out.mono ?_
      rintro e w1 ⟨rfl,hb1⟩
      have B1:=qH hb1
      have HF2':=qH (HF2.out w1 hb1)
      clear hb1
      go_wp2_with fail
      refine HF2'.out.mono ?_
      rintro e w2 ⟨rfl,hb2⟩
      have B2:=qH (up2 B1.out hb2)
      clear hb2 HF2' B1
      have hc3:=HCH.out w2 B2.out (some ⟨g0,lo*3,none⟩) (by have h:=(X.out.2.1.drop eltPc (n:=lo) (cap:=c) (by omega) hnc).take eltPc (L.length - lo);rw[if_neg q1] at h;simp only[Option.map_some,Addr.add,Nat.zero_add] at h;first|exact h|(rw[if_neg (show ¬ lo*3=0 by have:=HE.out.1;omega)] at h;exact h))
      rw[HML.out] at hc3
      have HC3:=qH hc3
      clear hc3
      go_wp2_with fail
      refine HC3.out.mono ?_
      rintro e w3 ⟨v3,V,rfl,hout,hdat,hb3⟩
      have B3:=qH (up2 B2.out hb3)
      have hVl:=X.out.2.2.2.2.2.2.2.2 V (by simpa only [List.map_take,List.map_drop] using hdat)
      have hv3:=X.out.1.up B3.out
      have hrep:=rep_any (i:=lo) (k:=L.length) hv3 (Nat.le_trans X.out.2.2.2.2.2.2.1 B3.out.size) hout.own (fun q h1 h2=>by have a1:=X.out.1.lt h1;have a2:=hout.own.base h2;have a3:=B2.out.size;omega) (by omega) hhl (fun e=>by have:=X.out.2.2.2.2.2.2.2.1 e;simpa using this) (by omega)
      have HP:=qH hrep
      have Y:=qH (⟨hout,hdat,hb3⟩:_/\_/\_)
      obtain⟨A3,c3,rfl,_,_,_⟩:=hout.own.shape eltPc
      clear hout hdat hb3 hv3 hrep HC3
      go_wp2_with fail
      refine HP.out.mono ?_
      rintro e w4 ⟨v4,rfl,hown,hon,hnv⟩
      have Z:=qH (⟨hown,hon,hnv⟩:_/\_/\_)
      obtain⟨A4,c4,e4,_,_,_⟩:=hown.shape eltPc
      generalize (List.take lo L++V++List.drop L.length L).length=n4 at e4
      subst e4
      clear hown hon hnv HP
      go_wp2_with fail
      go_ret
      have hz:=Z.out
      have hy:=Y.out
      have hx:=X.out
      have hkeep:∀(x:PcE),RSl encP w3 x.A x.ps->x.ps.length<=x.c->(0<x.ps.length->∀ g o,x.A=some ⟨g,o,none⟩->R g\/w.heap.size<=g/\w2.heap.size+3<=g)->(RSl encP w4 x.A x.ps/\x.ps.length<=x.c)/\∀ g o,x.A=some ⟨g,o,none⟩->0<x.ps.length->(R g\/w.heap.size<=g)/\(Value.slice A4 n4 c4).ownBlock≠some g:=fun x hr hc hk=>by
       have hnot:0<x.ps.length->∀ g o,x.A=some ⟨g,o,none⟩->¬(Value.slice (some ⟨g0,0,none⟩) L.length c).ownBlock=some g:=fun hp g o e e2=>by
        rcases hk hp g o e with h|h
        ·exact hx.2.2.2.2.1 g e2 h
        ·have:=hx.1.lt e2;omega
       refine⟨⟨hr.keptP (fun hp g o e=>hz.2.1.block g (hr.lt hp e) (hnot hp g o e)) hz.2.1.size,hc⟩,fun g o e hp=>⟨(hk hp g o e).imp id (fun h=>h.1),fun e2=>?_⟩⟩
       rcases hz.2.2 g e2 with h|h
       ·exact hnot hp g o e h
       ·have:=hr.lt hp e;omega
      refine⟨_,_,rfl,hz.1,?_,?_,fun k hk=>(hz.2.2 k hk).imp id (fun h=>Nat.le_trans B3.out.size h),fun x hxm=>?_⟩
      ·exact hx.2.2.2.2.2.1 V (by simpa only [List.map_take,List.map_drop] using hy.2.1)
      ·exact(Only.of_below B3.out).trans hz.2.1
      ·rcases List.mem_append.1 hxm with hxm|hxm
       ·rcases List.mem_append.1 hxm with hxm|hxm
        ·have hm:=hx.2.2.1 x (List.mem_of_mem_take hxm)
         exact hkeep x (hm.1.up B3.out) hm.2.2 (fun hp g o e=>.inl (hm.2.1 g o e))
        ·have hm:=hy.1.lst x hxm
         exact hkeep x hm.1.1 hm.1.2.2 (fun hp g o e=>(hm.2 hp g o e).1.imp id (fun h=>⟨by have:=B2.out.size;omega,h⟩))
       ·have hm:=hx.2.2.1 x (List.mem_of_mem_drop hxm)
        exact hkeep x (hm.1.up B3.out) hm.2.2 (fun hp g o e=>.inl (hm.2.1 g o e))
end
end Go.Proofs.YtkpoodjhjfmfjaaGreatDoor
namespace Go.Proofs.YtkpoodjhjfmfjaaGreatDoor
open Go.RowKit Go.Lib
open Ovs (PropE encP eltP SortedP)
section
variable {w w' : World} {b : Nat} {v : Value} {L : List PcE} {R : Nat → Prop} {A : Option Addr}
set_option maxHeartbeats 400000 in
theorem fullC (x:PcE) (w:World) (hl:x.ps.length<=1000):Calls Tryz.prog 253 #[.agg #[.int .i64 x.f,.int .i64 x.t,.slice x.A x.ps.length x.c]] w fun e w'=>e=.returned (.bool (decide (maxProps<x.ps.length)))/\Below w.heap.size w w':=by
 obtain⟨xf,xt,xA,xc,xp⟩:=x
 dsimp only at hl ⊢
 obtain⟨r,hr⟩:∃ r,r=decide (maxProps<xp.length):=⟨_,rfl⟩
 have hd:decide ((64:Int)<xp.length)=r:=by rw[hr,decide_eq_decide];unfold maxProps;omega
 have HR:=qH hr
 rw[<-hr]
 clear hr
 go_enter Tryz.func253,Tryz.ntmps253
 go_wp2_with fail
 go_ret
 exact⟨rfl,below1 _ _⟩
set_option maxRecDepth 100000 in
set_option maxHeartbeats 1000000 in
theorem idxPc (h:RSl encPc w A L) (c:Nat) (hl:L.length<=1000000) (hp:∀ x ∈ L,x.ps.length<=1000) :
  Calls Tryz.prog 286 #[.slice A L.length c,.func (.func 253) #[] #[]] w fun e w'=>Below w.heap.size w w' /\
   ((e=.returned (.int .i64 (-1))/\(L.any (fun x=>decide (maxProps<x.ps.length)))=false)\/∃ i:Nat,i<=1000000/\e=.returned (.int .i64 i)/\(L.any (fun x=>decide (maxProps<x.ps.length)))=true):=by
 have H:=qH h
 have HP:=qH hp
 clear h hp
 go_enter Tryz.func286,Tryz.ntmps286
 go_wp2_with fail
 go_loopw [8] (fun vi wr=>∃ k:Nat,k<=L.length/\vi=.int .i64 k/\(∀ j x,j<k->L[j]?=some x->decide (maxProps<x.ps.length)=false)/\Below w.heap.size w wr) (fun vi _=>L.length -(intOf vi).toNat)
 case atStart=>exact⟨0,by omega,rfl,fun j x hj=>by omega,Below.refl _ _⟩
 case round=>
  obtain⟨k,hk,rfl,hall,hbel⟩:=hrel
  have HA:=qH hall
  have HB:=qH hbel
  by_cases hlt:k<L.length
  ·obtain⟨⟨pf,pt,pA,pc,pp⟩,hx⟩:∃ x,L[k]?=some x:=⟨_,List.getElem?_eq_getElem hlt⟩
   obtain⟨g,o,rfl,hg,hc⟩:=(H.out.up hbel).at_ eltPc hx
   have e0:=hc 0 _ rfl
   have e1:=hc 1 _ rfl
   have e2:=hc 2 _ rfl
   simp only[<-Nat.add_assoc,Nat.add_zero] at e0 e1 e2
   have d0:decide ((k:Int)<L.length)=true:=decide_eq_true (by omega)
   have lt1:(k:Int)<L.length:=by omega
   have d01:(k<L.length)=True:=eq_true hlt
   have HX:=qH hx
   have HC:=qH (fullC ⟨pf,pt,pA,pc,pp⟩ wr (HP.out _ (List.mem_of_getElem? hx)))
   dsimp only at HC
   obtain⟨r,hr⟩:∃ r,r=decide (maxProps<pp.length):=⟨_,rfl⟩
   rw[<-hr] at HC
   have HR:=qH hr
   clear hc hx hall hbel hr
   cases r with
   | true=>
     go_wp2_with fail
     refine HC.out.mono ?_
     rintro e w2 ⟨rfl,hb⟩
     go_wp2_with fail
     go_ret
     refine⟨up2 HB.out hb,.inr ⟨k,by omega,rfl,?_⟩⟩
     rw[List.any_eq_true]
     exact⟨_,List.mem_of_getElem? HX.out,HR.out.symm⟩
   | false=>
     go_wp2_with fail
     refine HC.out.mono ?_
     rintro e w2 ⟨rfl,hb⟩
     go_wp2_with fail
     go_roundw
     case rel=>
      refine⟨k+1,by omega,by go_num,fun j x hj hx=>?_,up2 HB.out hb⟩
      rcases Nat.lt_or_ge j k with h1|h1
      ·exact HA.out j x h1 hx
      ·obtain rfl:j=k:=by omega
       rw[HX.out] at hx;cases hx;exact HR.out.symm
     case measure=>simp[intOf];omega
  ·have d0:decide ((k:Int)<L.length)=false:=decide_eq_false (by omega)
   have d00:((k:Int)<L.length)=False:=eq_false (by omega)
   have d01:(k<L.length)=False:=eq_false hlt
   clear hall hbel
   go_wp2_with fail
   go_ret
   refine⟨HB.out,.inl ⟨rfl,?_⟩⟩
   rw[List.any_eq_false]
   intro x hx
   obtain⟨j,hj⟩:=List.mem_iff_getElem?.1 hx
   have:=HA.out j x (by have:=(List.getElem?_eq_some_iff.1 hj).1;omega) hj
   simpa using this
theorem any_map (L:List PcE):(L.map PcE.dat).any (fun x=>decide (maxProps<x.ps.length))=L.any (fun x=>decide (maxProps<x.ps.length)):=by
 rw[List.any_map];rfl
set_option maxRecDepth 100000 in
set_option maxHeartbeats 1000000 in
theorem pfull (h:RSl encPc w A L) (c:Nat) (hl:L.length<=1000000) (hp:∀ x ∈ L,x.ps.length<=1000) :
  Calls Tryz.prog 194 #[.slice A L.length c] w fun e w'=>e=.returned (.bool (fullP (L.map PcE.dat)))/\Below w.heap.size w w':=by
 unfold fullP
 rw[List.length_map,any_map]
 by_cases h1:maxSpans<L.length
 ·have d0:decide ((1024:Int)<L.length)=true:=decide_eq_true (by unfold maxSpans at h1;omega)
  rw[decide_eq_true h1,Bool.true_or]
  clear h h1
  go_enter Tryz.func194,Tryz.ntmps194
  go_wp2_with fail
  go_ret
  exact⟨rfl,Below.refl _ _⟩
 ·have d0:decide ((1024:Int)<L.length)=false:=decide_eq_false (by unfold maxSpans at h1;omega)
  rw[decide_eq_false h1,Bool.false_or]
  have HI:=qH (idxPc h c hl hp)
  have hcon:Calls Tryz.prog 252 #[.slice A L.length c,.func (.func 253) #[] #[]] w fun e w'=>e=.returned (.bool (L.any (fun x=>decide (maxProps<x.ps.length))))/\Below w.heap.size w w':=by
   clear h h1 d0
   go_enter Tryz.func252,Tryz.ntmps252
   go_wp2_with fail
   refine HI.out.mono ?_
   rintro e w1 ⟨hb,⟨rfl,hf⟩|⟨i,hi,rfl,hf⟩⟩
   ·have HB:=qH hb
    have HF:=qH hf
    clear hb hf
    go_wp2_with fail
    go_ret
    exact⟨ret_bool HF.out.symm,HB.out⟩
   ·have HB:=qH hb
    have HF:=qH hf
    have d1:decide ((0:Int)<=(i:Int))=true:=decide_eq_true (by omega)
    clear hb hf
    go_wp2_with fail
    go_ret
    exact⟨ret_bool HF.out.symm,HB.out⟩
  have HC:=qH hcon
  clear h h1 hcon HI
  go_enter Tryz.func194,Tryz.ntmps194
  go_wp2_with fail
  refine HC.out.mono ?_
  rintro e w1 ⟨rfl,hb⟩
  have HB:=qH hb
  clear hb
  go_wp2_with fail
  go_ret
  exact⟨rfl,HB.out⟩
def PrPost (w:World) (b:Nat) (v:Value) (R:Nat->Prop) (ret:Value) (P:List Pc) (e:Ending) (w':World):Prop:=
 e=.returned ret/\∃ v' L' R',PrsAt w' b v' L' R'/\L'.map PcE.dat=P/\Only (fun k=>k=b\/v.ownBlock=some k) w w'/\(∀ k,v'.ownBlock=some k->v.ownBlock=some k\/w.heap.size<=k)/\∀ g,R' g->R g\/w.heap.size<=g
theorem PrPost.same {ret:Value} (h:PrsAt w b v L R) (hb:Below w.heap.size w w'):PrPost w b v R ret (L.map PcE.dat) (.returned ret) w':=
 ⟨rfl,v,L,R,h.up hb,rfl,Only.of_below hb,fun k hk=>.inl hk,fun g hg=>.inl hg⟩
theorem PrsAt.put {w1:World} {v1:Value} {L1:List PcE} (h:PrsAt w b v L R) (hk:Blk w1 b 192 #[v,.bool true]) (hbw:b<w1.heap.size) (how:ROwn encPc 190 3 0 w1 v1 L1) (hok:PcsOk (L1.map PcE.dat)) (hb1:v1.ownBlock≠some b)
  (hl:∀ x ∈ L1,(RSl encP w1 x.A x.ps/\x.ps.length<=x.c)/\∀ g o,x.A=some ⟨g,o,none⟩->0<x.ps.length->(R g\/w.heap.size<=g)/\v1.ownBlock≠some g) (hRw:∀ g,R g->g<w.heap.size) :
  ∃ R',PrsAt (w1.setCell ⟨b,0,none⟩ v1) b v1 L1 R'/\∀ g,R' g->R g\/w.heap.size<=g:=by
 have hs:Only (fun k=>k=b) w1 (w1.setCell ⟨b,0,none⟩ v1):=(Only.refl (fun k=>k=b) w1).setCell (p:=⟨b,0,none⟩) rfl _
 have hbR:∀ g,R g\/w.heap.size<=g->g≠b:=fun g hg e=>by
  subst e
  rcases hg with hg|hg
  ·exact h.nb hg
  ·have:=h.blk.lt;omega
 refine⟨fun g=>(R g\/w.heap.size<=g)/\v1.ownBlock≠some g,⟨hk.set (j:=0) (by simp) v1,how.kept (fun g hg=>hs.block g (how.lt hg) (fun e=>hb1 (e▸hg))),fun x hx=>?_,hok,hb1,fun hR=>hbR b hR.1 rfl,fun k hk hR=>hR.2 hk⟩,fun g hg=>hg.1⟩
 have hx1:=hl x hx
 have hne:0<x.ps.length:=List.length_pos_iff.2 (mem_pieces hok hx).ne
 refine⟨hx1.1.1.keptP (fun hp g o e=>hs.block g (hx1.1.1.lt hp e) (hbR g (hx1.2 g o e hp).1)) hs.size,fun g o e=>hx1.2 g o e hne,hx1.1.2⟩
set_option maxRecDepth 100000 in
set_option maxHeartbeats 4000000 in
theorem pput (h:PrsAt w b v L R) (hR:∀ g,R g->g<w.heap.size) (f t:Int) (x:PropE) :
  Calls Tryz.prog 117 #[.pointer (some ⟨b,0,none⟩),.int .i64 f,.int .i64 t,.int .i64 x.name,.agg #[.int .i64 x.kind,.int .i64 x.n]] w (PrPost w b v R (.int .i64 (putE (L.map PcE.dat) f t x)) (putP (L.map PcE.dat) f t x)):=by
 obtain⟨xn,xk,xv⟩:=x
 have hb1:=below1 w (.cells #[.int .i64 xn] 3)
 have hk1:=Blk.made w 3 #[.int .i64 xn]
 have hz1:(w.alloc (.cells #[.int .i64 xn] 3)).heap.size=w.heap.size+1:=by simp
 have hb2:=below1 (w.alloc (.cells #[.int .i64 xn] 3)) (.cells #[.int .i64 xk,.int .i64 xv] 31)
 have hk2:=Blk.made (w.alloc (.cells #[.int .i64 xn] 3)) 31 #[.int .i64 xk,.int .i64 xv]
 rw[hz1] at hk2
 have hk1:=hk1.up hb2
 have hb:=up2 hb1 hb2
 have hz:((w.alloc (.cells #[.int .i64 xn] 3)).alloc (.cells #[.int .i64 xk,.int .i64 xv] 31)).heap.size=w.heap.size+2:=by simp
 have n1:=hk1.cell (j:=0) rfl
 have hlen:=h.len
 have hH:=h.up hb
 have HCK:=qH (pcheck hH f t xn)
 have H:=qH hH
 have H0:=qH h
 have X:=qH (⟨hb,hk1,hk2,hz,hR⟩:_/\_/\_/\_/\_)
 obtain⟨r,hr⟩:∃ r,r=checkP f t xn:=⟨_,rfl⟩
 rw[<-hr] at HCK
 have HRR:=qH hr
 obtain⟨E,hE⟩:∃ z,z=putE (L.map PcE.dat) f t ⟨xn,xk,xv⟩:=⟨_,rfl⟩
 obtain⟨P,hP⟩:∃ z,z=putP (L.map PcE.dat) f t ⟨xn,xk,xv⟩:=⟨_,rfl⟩
 rw[<-hE,<-hP]
 have EP:=qH (⟨hE,hP⟩:_/\_)
 clear hE hP
 by_cases hr0:r=0
 ·obtain⟨f1,f2,f3,f4⟩:=checkP_may (hr.symm.trans hr0)
  subst hr0
  obtain⟨Av,c,rfl,hvc,hvm,hRv⟩:=hH.own.shape eltPc
  have c0:=hH.blk.cell (j:=0) rfl
  have HCL:=qH (clonePc hRv c (by omega))
  have FF:=qH (⟨f1,f2,f3⟩:_/\_/\_)
  clear h hb1 hk1 hz1 hb2 hk2 hb hz hH hR hRv hr f1 f2 f3 f4 hvm
  go_enter Tryz.func117,Tryz.ntmps117
  go_wp2_with fail
  refine HCK.out.mono ?_
  rintro e w1 ⟨rfl,rfl⟩
  go_wp2_with fail
  generalize (w.alloc (.cells #[.int .i64 xn] 3)).alloc (.cells #[.int .i64 xk,.int .i64 xv] 31)=W at *
  refine HCL.out.mono ?_
  rintro e w2 ⟨vc,rfl,hcl,hb2⟩
  have hH2:=H.out.up hb2
  have hch:=pchange (putC w.heap.size (w.heap.size+1) ⟨xn,xk,xv⟩ (X.out.2.1.up hb2) (X.out.2.2.1.up hb2)) (Ovs.enters_mk Tryz.func192 (by kernel_rfl) rfl) (withP_keeps _) hcl hb2.size hH2.lst hH2.ok (fun g hg=>by have:=X.out.2.2.2.2 g hg;have:=hb2.size;have:=X.out.2.2.2.1;omega) (fun k hk hRk=>by have:=hcl.base hk;have:=X.out.2.2.2.2 k hRk;have:=X.out.2.2.2.1;omega) f t FF.out.2.1 FF.out.1 FF.out.2.2
  have HCH:=qH hch
  have Y:=qH (⟨hcl,hb2,hH2⟩:_/\_/\_)
  obtain⟨Ac,cc,rfl,_,_,_⟩:=hcl.shape eltPc
  clear hch hcl hb2 hH2 HCL
  go_wp2_with fail
  refine HCH.out.mono ?_
  rintro e w3 ⟨v3,L3,rfl,hown,hdat,hon,hnv,hls⟩
  have hU:Upto 65 (L3.map PcE.dat) 65537:=by rw[hdat];exact changeP_ok Y.out.2.2.ok (withP_keeps ⟨xn,xk,xv⟩) (by omega) FF.out.2.1 FF.out.1 FF.out.2.2
  have hl3:L3.length<=65536:=by have:=hU.len;simpa using this
  obtain⟨A3,c3,rfl,_,_,hR3⟩:=hown.shape eltPc
  have hfu:=pfull hR3 c3 (by omega) (fun x hx=>by have:=(hU.ok _ (List.mem_map_of_mem hx)).len;show x.ps.length<=1000;have e:x.dat.ps=x.ps:=rfl;rw[e] at this;omega)
  have HFU:=qH hfu
  have Z:=qH (⟨hown,hdat,hon,hnv,hls,hU⟩:_/\_/\_/\_/\_/\_)
  have hkb:Blk w3 b 192 #[.slice Av L.length c,.bool true]:=Y.out.2.2.blk.only hon (fun e=>by have:=Y.out.1.base e;have:=H0.out.blk.lt;have:=X.out.2.2.2.1;omega)
  have hbb:Below w.heap.size w w3:=(X.out.1.trans (Y.out.2.1.mono X.out.1.size)).trans ⟨hon.os,hon.tape,hon.output,hon.size,fun i hi=>hon.block i (by have:=Y.out.2.1.size;have:=X.out.2.2.2.1;omega) (fun e=>by have:=Y.out.1.base e;have:=X.out.2.2.2.1;omega)⟩
  have HB:=qH (⟨hkb,hbb⟩:_/\_)
  clear hown hdat hon hnv hls hU hfu hkb hbb HCH hR3
  go_wp2_with fail
  refine HFU.out.mono ?_
  rintro e w4 ⟨rfl,hb4⟩
  have hkb:=HB.out.1.up hb4
  have f0:=hkb.fz 0
  have c4:=hkb.cell (j:=0) rfl
  have B4:=qH (⟨hb4,hkb⟩:_/\_)
  clear hb4 hkb
  have hzd:=Z.out.2.1
  cases hfl:fullP (L3.map PcE.dat) with
  | true=>
    have HFL:=qH hfl
    clear hfl hzd
    go_wp2_with fail
    go_ret
    have he:fullP (changeP (L.map PcE.dat) f t (withP ⟨xn,xk,xv⟩))=true:=by rw[<-Z.out.2.1];exact HFL.out
    have hE:putE (L.map PcE.dat) f t ⟨xn,xk,xv⟩=7:=by unfold putE;dsimp only;rw[<-HRR.out,if_neg (by omega),if_pos he]
    have hP:putP (L.map PcE.dat) f t ⟨xn,xk,xv⟩=L.map PcE.dat:=by unfold putP;rw[hE,if_neg (by omega)]
    rw[EP.out.1,EP.out.2,hE,hP]
    exact PrPost.same H0.out (HB.out.2.trans (B4.out.1.mono HB.out.2.size))
  | false=>
    have HFL:=qH hfl
    clear hfl hzd
    go_wp2_with fail
    go_ret
    have he:¬ fullP (changeP (L.map PcE.dat) f t (withP ⟨xn,xk,xv⟩))=true:=by rw[<-Z.out.2.1,HFL.out];simp
    have hE:putE (L.map PcE.dat) f t ⟨xn,xk,xv⟩=0:=by unfold putE;dsimp only;rw[<-HRR.out,if_neg (by omega),if_neg he]
    have hP:putP (L.map PcE.dat) f t ⟨xn,xk,xv⟩=changeP (L.map PcE.dat) f t (withP ⟨xn,xk,xv⟩):=by unfold putP;rw[hE,if_pos rfl]
    rw[EP.out.1,EP.out.2,hE,hP]
    have hz:=Z.out
    have hok:PcsOk (L3.map PcE.dat):=by
     have:=putP_ok (x:=⟨xn,xk,xv⟩) (f:=f) (t:=t) Y.out.2.2.ok
     rw[hz.2.1,<-hP];exact this
    have hw2:=Y.out.2.1.size
    have hW:=X.out.2.2.2.1
    have hbl:=H0.out.blk.lt
    obtain⟨R',hp,hR'⟩:=H0.out.put B4.out.2 (by have:=HB.out.2.size;have:=B4.out.1.size;omega) ((hz.1.up B4.out.1).low (Nat.zero_le _)) hok (fun e=>by
     rcases hz.2.2.2.1 b e with h|h
     ·have:=Y.out.1.base h;omega
     ·omega) (fun x hx=>⟨⟨(hz.2.2.2.2.1 x hx).1.1.up B4.out.1,(hz.2.2.2.2.1 x hx).1.2⟩,fun g o e hp=>⟨((hz.2.2.2.2.1 x hx).2 g o e hp).1.imp id (fun h=>by omega),((hz.2.2.2.2.1 x hx).2 g o e hp).2⟩⟩) X.out.2.2.2.2
    refine⟨rfl,_,L3,R',hp,hz.2.1,?_,fun k hk=>.inr ?_,hR'⟩
    ·exact(Only.of_below (HB.out.2.trans (B4.out.1.mono HB.out.2.size))).setCell (p:=⟨b,0,none⟩) (.inl rfl) _
    ·rcases hz.2.2.2.1 k hk with h|h
     ·have:=Y.out.1.base h;omega
     ·omega
 ·have d0:(r != 0)=true:=by simpa using hr0
  have HR0:=qH hr0
  have p0:(r=0)=False:=eq_false hr0
  clear h hb1 hk1 hz1 hb2 hk2 hb hz hH hR hr hr0
  go_enter Tryz.func117,Tryz.ntmps117
  go_wp2_with fail
  refine HCK.out.mono ?_
  rintro e w1 ⟨rfl,rfl⟩
  go_wp2_with fail
  go_ret
  have hE:putE (L.map PcE.dat) f t ⟨xn,xk,xv⟩=r:=by unfold putE;dsimp only;rw[<-HRR.out,if_pos HR0.out]
  have hP:putP (L.map PcE.dat) f t ⟨xn,xk,xv⟩=L.map PcE.dat:=by unfold putP;rw[hE,if_neg HR0.out]
  rw[EP.out.1,EP.out.2,hE,hP]
  exact PrPost.same H0.out X.out.1
end
end Go.Proofs.YtkpoodjhjfmfjaaGreatDoor
