/- A part. -/
import Derived.Test.YtkpoodjhjfmfjaaGreatDoorZ05
import Derived.Test.YtkpoodjhjfmfjaaGreatDoorZ00
import Derived.IntWalk
import Derived.BigRegion
import Derived.RegionTactic
import Derived.ChangeAlike
import Derived.Test.YtkpoodjhjfmfjaaGreatDoorZ01
set_option linter.unusedVariables false
set_option linter.unusedSimpArgs false
namespace Go.Proofs.YtkpoodjhjfmfjaaGreatDoor
open Go.RowKit Go.Lib
theorem gnone1 {w:World} {t g st en:Nat} {B:List Int} {fv:Value} (h:GapW w t g B st en fv):Calls Tryz.prog 176 #[.pointer (some ⟨t,0,none⟩)] w fun e w'=>e=.returned (.bool false)/\w=w':=by
 obtain⟨c,_,hb⟩:=h.ex
 exact gnone0 hb rfl
structure InsL (w wr:World) (foot:Nat->Prop) (t g':Nat) (fv:Value) (B0:List Int) (i en' K:Nat) (s:ByteArray) (ms:List Nat) (Y:List Int) (va:Value) (p:Nat) (pre rest:List Nat):Prop where
 hp:p<=s.size
 ms:ms=pre++rest
 rest:charsD (s.data.toList.drop p)=some rest
 it:wr.heap[K]?=some (.stringIter s p)
 gw:∃ B,GapW wr t g' B (i+pre.length) en' fv/\B.take (i+pre.length)=B0.take i++pre.map Int.ofNat/\B.drop en'=B0.drop en'
 fd:ROwn encI 3 1 0 wr fv Y
 fr:ROwn encI 3 1 (K+1) wr va (feedsF (1+i) pre)
 on:Only foot w wr
 sz:K+1<=wr.heap.size
section
variable {w W wr : World} {foot : Nat → Prop} {t g' i en' K p p' c : Nat} {fv va v' : Value} {B0 Y : List Int} {s : ByteArray} {ms pre rest rest' : List Nat}
theorem InsL.moved (h:InsL w wr foot t g' fv B0 i en' K s ms Y va p pre rest) (hk:∀ k,k<wr.heap.size->k≠K->W.heap[k]?=wr.heap[k]?) (hz:wr.heap.size<=W.heap.size) (hon:Only (fun k=>k=K) wr W) (hKw:w.heap.size<=K) (hnK:t<K/\g'<K/\(∀ q,fv.ownBlock=some q->q<K)) :
  (∃ B,GapW W t g' B (i+pre.length) en' fv/\B.take (i+pre.length)=B0.take i++pre.map Int.ofNat/\B.drop en'=B0.drop en')/\ROwn encI 3 1 0 W fv Y/\ROwn encI 3 1 (K+1) W va (feedsF (1+i) pre)/\Only foot w W/\K+1<=W.heap.size:=by
 obtain⟨B,hg,h1,h2⟩:=h.gw
 have hsz:=h.sz
 refine⟨⟨B,hg.kept (hk _ (by omega) (by omega)) (hk _ (by omega) (by omega)),h1,h2⟩,h.fd.kept (fun q hq=>hk q (by have:=hnK.2.2 q hq;omega) (by have:=hnK.2.2 q hq;omega)),
  h.fr.kept (fun q hq=>hk q (h.fr.lt hq) (by have:=h.fr.base hq;omega)),h.on.then hon (fun k hk hlt=>by omega),by omega⟩
theorem InsL.step {B:List Int} (hd3:p'<=s.size) (hms:ms=pre++c :: rest') (hr:charsD (s.data.toList.drop p')=some rest') (hit:W.heap[K]?=some (.stringIter s p'))
  (hg:GapW W t g' B (i+pre.length) en' fv) (h1:B.take (i+pre.length)=B0.take i++pre.map Int.ofNat) (h2:B.drop en'=B0.drop en') (hfd:ROwn encI 3 1 0 W fv Y) (hfr:ROwn encI 3 1 (K+1) W v' (feedsF (1+i) (pre++[c])))
  (hon:Only foot w W) (hsz:K+1<=W.heap.size) (hft:foot t) (hfg:foot g'\/w.heap.size<=g') (hnK:t<K/\g'<K/\(∀ q,fv.ownBlock=some q->q<K/\q≠t/\q≠g')) (hroom:i+pre.length<en') :
  InsL w (((W.setCell ⟨g',i+pre.length,none⟩ (.int .i32 c)).setCell ⟨t,1,none⟩ (.int .i64 ((i+pre.length:Nat)+1))).drew) foot t g' fv B0 i en' K s ms Y v' p' (pre++[c]) rest':=by
 have hG1:=hg.setG (j:=i+pre.length) (by have:=hg.h2;omega) (c:Int)
 have hG2:=hG1.setS (i+(pre.length+1)) (by omega)
 have hk:∀ k,k≠t->k≠g'->(((W.setCell ⟨g',i+pre.length,none⟩ (.int .i32 c)).setCell ⟨t,1,none⟩ (.int .i64 ((i+pre.length:Nat)+1))).drew).heap[k]?=W.heap[k]?:=fun k k1 k2=>
  (Below.heap_setCell _ ⟨t,1,none⟩ _ _ (show k≠t from k1)).trans (Below.heap_setCell _ ⟨g',i+pre.length,none⟩ _ _ (show k≠g' from k2))
 have hlen:(pre++[c]).length=pre.length+1:=by simp
 have hgh:=hg.h2
 refine⟨hd3,by rw[hms];simp,hr,(hk K (by omega) (by omega)).trans hit,⟨B.set (i+pre.length) (c:Int),?_,?_,?_⟩,hfd.kept (fun q hq=>hk q (hnK.2.2 q hq).2.1 (hnK.2.2 q hq).2.2),hfr.kept (fun q hq=>hk q (by have:=hfr.base hq;omega) (by have:=hfr.base hq;omega)),?_,by simpa using hsz⟩
 ·rw[hlen]
  have e:((i+pre.length:Nat)+1:Int)=((i+(pre.length+1):Nat):Int):=by omega
  rw[e]
  exact hG2.kept rfl rfl
 ·rw[hlen,show i+(pre.length+1)=(i+pre.length)+1 by omega,List.take_succ_eq_append_getElem (by simp;omega),List.take_set_of_le (Nat.le_refl _),h1]
  simp
 ·rw[List.drop_set_of_lt (by omega),h2]
 ·rcases hfg with hf|hf
  ·exact((hon.setCell (p:=⟨g',i+pre.length,none⟩) hf _).setCell (p:=⟨t,1,none⟩) hft _).drew
  ·exact((hon.then (T:=fun k=>k=g') ((Only.refl (fun k=>k=g') W).setCell (p:=⟨g',i+pre.length,none⟩) rfl _) (fun k hk hlt=>by omega)).setCell (p:=⟨t,1,none⟩) hft _).drew
end
section
variable {w w' : World} {t g st en : Nat} {fv : Value} {B : List Int} {cs : List Nat}
set_option maxRecDepth 100000 in
set_option maxHeartbeats 4000000 in
theorem ginsert_ok {N:Nat} (hT:Tabs N w) (h:GapX w t g fv B st en cs) (hNf:∀ k,gapFoot t g fv k->N<=k) (s:ByteArray) (hs:s.size<=262144) (hv:(charsD s.data.toList).isSome=true) (p:Nat) (hp1:1<=p) (hp2:p<=cs.length+1) (hfit:cs.length+(chrs s).length<=65536) :
  Calls Tryz.prog 169 #[.pointer (some ⟨t,0,none⟩),.int .i64 p,.string s] w fun e w'=>e=.returned (.int .i64 0)/\GapTo w t g fv (insC cs p (chrs s)) w':=by
 have HL:=rlenG_chars hv
 have HI:=chrs_isN s
 obtain⟨ms,hms⟩:=Option.isSome_iff_exists.1 hv
 have hcc:chrs s=ms:=by unfold chrs;rw[hms];rfl
 rw[hcc] at HL HI hfit ⊢
 have hvl:vld s=true:=by rw[vld_chars];exact hv
 obtain⟨n,hnn⟩:∃ n,n=ms.length:=⟨_,rfl⟩
 have hlen:=h.len
 have h1:=h.gw.h1
 have h2:=h.gw.h2
 rw[<-hnn] at HL hfit
 obtain⟨i,hi⟩:∃ i,i+1=p:=⟨p - 1,by omega⟩
 obtain⟨C,hC⟩:∃ C,C=cs.length:=⟨_,rfl⟩
 have s1:IntKind.i64.wrap ((p:Int) - 1)=(i:Int):=by rw[IntWalk.i64_in _ (by omega)];omega
 have d1:decide ((p:Int)<1)=false:=decide_eq_false (by omega)
 have d4:decide ((C:Int)+1<(p:Int))=false:=decide_eq_false (by omega)
 have d5:decide ((65536:Int) - C<(n:Int))=false:=decide_eq_false (by omega)
 have s4:IntKind.i64.wrap ((65536:Int) - C)=(65536:Int) - C:=IntWalk.i64_in _ (by omega)
 have s5:IntKind.i64.wrap ((C:Int)+1)=(C:Int)+1:=IntWalk.i64_in _ (by omega)
 have hgs:=fun(w':World) (hb:Below w.heap.size w w')=>gsize (h.r.up hb)
 rw[<-hC] at hgs
 have HGS:=qH hgs
 have AA:=qH (⟨hms,hnn,hlen,h1,h2,hfit,hi,hp1,hp2,HI,hcc,hC⟩:_/\_/\_/\_/\_/\_/\_/\_/\_/\_/\_/\_)
 have H:=qH h
 have HT:=qH hT
 have HN:=qH (gnone1 h.gw)
 have HLQ:=qH HL
 have HNF:=qH hNf
 have HVL:=qH hvl
 clear hv hcc hms HI h hT hnn hlen h1 h2 hfit hi hp1 hp2 hC hgs HL hNf hvl
 go_enter Tryz.func169,Tryz.ntmps169
 go_wp2_with fail
 refine HN.out.mono ?_
 rintro e w' ⟨rfl,rfl⟩
 clear HN
 go_wp2_with fail
 refine(HGS.out w (Below.refl _ _)).mono ?_
 rintro e w1 ⟨rfl,hb1⟩
 have B1:=qH hb1
 have hV:=valid_any s w1 (by omega) (HT.out.up hb1)
 rw[HVL.out] at hV
 have V:=qH hV
 clear hb1 hV
 go_wp2_with fail
 refine V.out.mono ?_
 rintro e w2 ⟨rfl,hb2⟩
 have B2:=qH (up2 B1.out hb2)
 have hLn:=runesLen s w2 (by omega) (HT.out.up B2.out)
 rw[HLQ.out] at hLn
 have V:=qH hLn
 clear hb2 hLn
 go_wp2_with fail
 refine V.out.mono ?_
 rintro e w3 ⟨rfl,hb3⟩
 have B3:=qH (up2 B2.out hb3)
 clear hb3
 go_wp2_with fail
 refine(HGS.out w3 B3.out).mono ?_
 rintro e w4 ⟨rfl,hb4⟩
 have B4:=qH (up2 B3.out hb4)
 clear hb4 V d1 d4
 go_wp2_with fail
 refine(gmove_ok (H.out.up B4.out).gw (i:=i) (by have:=AA.out;omega)).mono ?_
 rintro e w5 ⟨rfl,ho5,hz5,B5,hg5,hl5,ht5⟩
 obtain⟨G,hG⟩:∃ G,G=en - st:=⟨_,rfl⟩
 rw[<-hG] at hg5 ht5
 rw[(H.out).txt] at ht5
 have HX5:=qH (show GapX w5 t g fv B5 i (i+G) cs from⟨hg5,((H.out.up B4.out).own).kept (fun k hk=>ho5.block k ((H.out.up B4.out).own.lt hk) (fun e=>by have:=H.out.nf k hk;omega)),H.out.nf,ht5,H.out.cn,H.out.le⟩)
 have O5:=qH (show Only (gapFoot t g fv) w w5 from(Only.of_below B4.out).trans (ho5.mono (fun k hk=>hk.elim .inl (fun h=>.inr (.inl h)))))
 have HG:=qH hG
 have HL5:=qH hl5
 clear ho5 hz5 hg5 hl5 ht5 hG d5 s4
 go_wp2_with fail
 refine(ggrow_any HX5.out.gw (n:=n) (by have:=AA.out;omega) (by have:=AA.out;have:=HX5.out.len;omega)).mono ?_
 rintro e w6 ⟨rfl,ho6,g',B6,en',hgg,hg6,hn6,htk,hdr⟩
 have hg'1:∀ k,fv.ownBlock=some k->k≠t/\k≠g':=fun k hk=>⟨(H.out.nf k hk).1,by
  have h1:=(H.out.nf k hk).2
  have h2:=HX5.out.own.lt hk
  omega⟩
 have hown6:ROwn encI 3 1 0 w6 fv (feeds cs):=HX5.out.own.kept (fun k hk=>ho6.block k (HX5.out.own.lt hk) (H.out.nf k hk).1)
 have hO6:Only (gapFoot t g fv) w w6:=O5.out.trans (ho6.mono (fun k hk=>.inl hk))
 have hzz:w.heap.size<=w5.heap.size:=O5.out.size
 have htx:B6.take i++B6.drop en'=cs.map Int.ofNat:=by rw[htk,hdr];exact HX5.out.txt
 have hfl:(feeds cs).length<=65536:=by have:=feedsF_len cs 1;have:=H.out.le;unfold feeds;omega
 have hG6:gapFoot t g' fv=gapFoot t g' fv:=rfl
 have hnew:g'=g\/w.heap.size<=g':=by omega
 have hBS:=bsearch_own hown6 ((feedsF_sorted cs 1).imp (fun h=>Int.le_of_lt h)) (by omega) (p:Int)
 have hcn:(feeds cs).countP (fun z=>decide (z<(p:Int)))=(feeds (cs.take i)).length:=by
  have:=feeds_count (cs.take i) (cs.drop i) (p:Int) (by have:=AA.out;simp;omega)
  rwa [List.take_append_drop] at this
 obtain⟨X,hX⟩:∃ X,X=feeds cs:=⟨_,rfl⟩
 rw[<-hX] at hown6 hfl hBS hcn
 rw[hcn] at hBS
 obtain⟨i2,hi2⟩:∃ i2,i2=(feeds (cs.take i)).length:=⟨_,rfl⟩
 rw[<-hi2] at hBS hcn
 have hi2l:i2<=X.length:=by rw[<-hcn];exact List.countP_le_length
 have HQ:=qH (⟨hg'1,hO6,hnew,htx,hfl,hX,hi2,hi2l,hn6⟩:_/\_/\_/\_/\_/\_/\_/\_/\_)
 have HG6:=qH hg6
 have HOW6:=qH hown6
 have HBS:=qH hBS
 clear ho6 hgg htk hdr hzz hG6 hg'1 hO6 hnew htx hfl hX hi2 hi2l hn6 hcn hBS
 obtain⟨A,cap,rfl,hcp1,hcp2,hrs⟩:=hown6.shape eltI
 clear hrs hown6
 have c3:w6.cell? ⟨t,3,none⟩=some (.slice A X.length cap):=hg6.c3
 clear hg6
 go_wp2_with fail
 refine HBS.out.mono ?_
 rintro e w7 ⟨rfl,hb7⟩
 have HG7:=qH (HG6.out.up hb7)
 have HOW7:=qH (HOW6.out.up hb7)
 have B7:=qH hb7
 have c3:w7.cell? ⟨t,3,none⟩=some (.slice A X.length cap):=HG7.out.c3
 clear hb7 HBS
 go_wp2_with fail
 clear c3
 clear c3
 go_loopw [10] (fun vk wr=>∃ j:Nat,i2<=j/\j<=X.length/\vk=.int .i64 j/\GapW wr t g' B6 i en' (.slice A X.length cap)/\ROwn encI 3 1 0 wr (.slice A X.length cap) (bump X i2 j n)/\Only (gapFoot t g (.slice A X.length cap)) w wr/\w7.heap.size<=wr.heap.size) (fun vk _=>X.length -(intOf vk).toNat)
 case atStart=>exact⟨i2,Nat.le_refl _,HQ.out.2.2.2.2.2.2.2.1,rfl,HG7.out,by rw[bump_start];exact HOW7.out,HQ.out.2.1.trans (Only.of_below B7.out),Nat.le_refl _⟩
 case round=>
  obtain⟨j,hj1,hj2,rfl,hgw,how,hon,hsz⟩:=hrel
  have hXl:=HQ.out.2.2.2.2.1
  by_cases hlt:j<X.length
  ·have hbl:(bump X i2 j (n:Int)).length=X.length:=bump_len _ hj1 hj2
   obtain⟨q,cap',hAq,_,_,_,hq2,hq3,hq4⟩:=how.lies eltI (by omega)
   have hA2:A=some ⟨q,0,none⟩:=by injection hAq
   subst hA2
   have hnq:=HQ.out.1 q rfl
   have hx:=bump_get (n:Int) hj1 hlt
   have c3:wr.cell? ⟨t,3,none⟩=some (.slice (some ⟨q,0,none⟩) X.length cap):=hgw.c3
   have hcell:wr.cell? ⟨q,j,none⟩=some (.int .i64 X[j]):=by
    have:=hq4 j X[j] 0 (.int .i64 X[j]) hx rfl
    simpa using this
   have d1:decide (j<X.length)=true:=decide_eq_true hlt
   have hfz:wr.frozen? ⟨q,j,none⟩=false:=hq3 j (by omega)
   have hzb:1<=X[j]/\X[j]<=65537:=by
    have hm:X[j] ∈ feeds cs:=by rw[<-HQ.out.2.2.2.2.2.1];exact List.getElem_mem _
    have:=feedsF_mem cs 1 X[j] hm
    have:=H.out.le
    omega
   have hst:=bump_step (n:Int) hj1 hlt
   obtain⟨z,hz⟩:∃ z,z=X[j]:=⟨_,rfl⟩
   rw[<-hz] at hx hcell hzb hst
   have s1:IntKind.i64.wrap (z+(n:Int))=z+n:=IntWalk.i64_in _ (by have:=AA.out;omega)
   have s2:IntKind.i64.wrap ((j:Int)+1)=((j+1:Nat):Int):=by rw[IntWalk.i64_in _ (by omega)];omega
   have RR:=qH (⟨hgw,how,hon,hsz,hx,hbl,hnq,hst,hj1,hlt⟩:_/\_/\_/\_/\_/\_/\_/\_/\_/\_)
   clear hgw how hon hsz hx hbl hnq hst hj1 hq4 hq3 hAq hXl hzb hz hj2 hcp1 hcp2
   go_wp2_with fail
   go_roundw
   case rel=>
    obtain⟨hgw,how,hon,hsz,hx,hbl,hnq,hst,hj1,hlt⟩:=RR.out
    refine⟨j+1,by omega,by omega,by first|rfl|go_num,?_,?_,?_,?_⟩
    ·exact(hgw.only ((Only.refl (fun k=>k=q) wr).setCell (p:=⟨q,j,none⟩) rfl _) (fun e=>hnq.1 e.symm) (fun e=>hnq.2 e.symm):GapW _ _ _ _ _ _ _)
    ·rw[<-hst]
     rw[<-hbl] at how ⊢
     have:=how.put eltI (i:=j) (j:=0) (x:=z) (y:=z+n) (u:=.int .i64 (z+n)) hx (by omega) rfl
     simpa using this
    ·exact hon.setCell (p:=⟨q,j,none⟩) (.inr (.inr rfl)) _
    ·simpa using hsz
   case measure=>simp[intOf];omega
  ·have hje:j=X.length:=by omega
   subst hje
   obtain⟨wA,rfl⟩:∃ x,x=wr:=⟨_,rfl⟩
   have d1:decide (X.length<X.length)=false:=decide_eq_false (by omega)
   have c3:wA.cell? ⟨t,3,none⟩=some (.slice A X.length cap):=hgw.c3
   have c1:wA.cell? ⟨t,1,none⟩=some (.int .i64 i):=hgw.c1
   rw[bump_end] at how
   have RR:=qH (⟨hgw,how,hon,hsz⟩:_/\_/\_/\_)
   clear hgw how hon hj1 hj2 hlt hcp1 hcp2 hsz
   go_wp2_with fail
   clear c1 c3 d1
   have hit:=wA.iter_heap s 0
   have hsz:(wA.iter s 0).heap.size=wA.heap.size+1:=by simp[World.iter]
   have HBi:=qH (show Below wA.heap.size wA (wA.iter s 0) from below1 wA _)
   have hI0:InsL w (wA.iter s 0) (gapFoot t g (.slice A X.length cap)) t g' (.slice A X.length cap) B6 i en' wA.heap.size s ms (X.take i2++(X.drop i2).map (fun z=>z+(n:Int))) (.slice none 0 0) 0 [] ms:=by
    obtain⟨hgw,how,hon,hsz'⟩:=RR.out
    exact⟨Nat.zero_le _,rfl,by simpa using AA.out.1,hit,⟨B6,hgw.up HBi.out,by simp,rfl⟩,how.up HBi.out,ROwn.nil _ _,hon.trans (Only.of_below HBi.out),by omega⟩
   have hft:gapFoot t g (.slice A X.length cap) t:=.inl rfl
   have hfg:gapFoot t g (.slice A X.length cap) g'\/w.heap.size<=g':=HQ.out.2.2.1.elim (fun e=>.inl (.inr (.inl e))) .inr
   have hKw:w.heap.size<=wA.heap.size:=RR.out.2.2.1.size
   have hnK:t<wA.heap.size/\g'<wA.heap.size/\(∀ q,(Value.slice A X.length cap).ownBlock=some q->q<wA.heap.size/\q≠t/\q≠g'):=⟨RR.out.1.ltT,RR.out.1.ltG,fun q hq=>⟨RR.out.2.1.lt hq,HQ.out.1 q hq⟩⟩
   generalize wA.iter s 0=W0 at *
   have hI0':=qH hI0
   have K8:=qH (⟨hft,hfg,hKw,hnK⟩:_/\_/\_/\_)
   clear hI0 hft hfg hKw hnK hit hsz
   go_loopw [11,13] (fun va vb w8=>∃(p:Nat) (pre rest:List Nat),InsL w w8 (gapFoot t g (.slice A X.length cap)) t g' (.slice A X.length cap) B6 i en' wA.heap.size s ms (X.take i2++(X.drop i2).map (fun z=>z+(n:Int))) va p pre rest) (fun _ _ w8=>s.size - w8.iterPos wA.heap.size)
   case atStart=>exact⟨0,[],ms,hI0'.out⟩
   case round=>
    obtain⟨p',pre,rest,hI⟩:=hrel
    obtain⟨hft,hfg,hKw,hnK⟩:=K8.out
    have HW:=qH RR.out.2.2.2
    clear RR hI0' HBi
    generalize wA.heap.size=K at *
    have hip:wr.iterPos K=p':=iterPos_of hI.it
    rw[hip]
    have hle:pre.length+rest.length=n:=by rw[AA.out.2.1,hI.ms,List.length_append]
    by_cases hlt:p'<s.size
    ·obtain⟨c,rest',hrc,hd1,hd2,hd3,hd4,hc⟩:=decode_step hlt hI.rest
     subst hrc
     have hnx:=fun ty=>Lib.run_next_any_at (P:=Tryz.prog) wr K s p' ty hI.it hlt
     rw[hd1] at hnx
     have hit1:=Lib.iterAt_heap wr K s p' (p'+(Utf8.decode s p').2) hI.it
     have hoth:=fun j (hj:j≠K)=>Lib.iterAt_other wr K j s (p'+(Utf8.decode s p').2) hj
     have hsz1:=Lib.iterAt_size wr K s (p'+(Utf8.decode s p').2)
     have hon1:Only (fun k=>k=K) wr (wr.iterAt K s (p'+(Utf8.decode s p').2)):=⟨rfl,rfl,rfl,by rw[hsz1];exact Nat.le_refl _,fun j _ hj=>hoth j hj⟩
     have hpp:p'<p'+(Utf8.decode s p').2:=by omega
     clear hd1 hd2
     generalize p'+(Utf8.decode s p').2=p2 at *
     generalize wr.iterAt K s p2=w1 at *
     simp only[List.length_cons] at hle
     obtain⟨⟨B1,hg1,ht1,hr1⟩,hfd1,hfr1,hof1,hsz2⟩:=hI.moved (W:=w1) (fun k _ hk=>hoth k hk) (by omega) hon1 hKw ⟨hnK.1,hnK.2.1,fun q hq=>(hnK.2.2 q hq).1⟩
     obtain⟨cx,hcx,c0⟩:=hg1.c0
     have c1:w1.cell? ⟨t,1,none⟩=some (.int .i64 ((i+pre.length:Nat):Int)):=hg1.c1
     have hroom:i+pre.length<en':=by have:=HQ.out.2.2.2.2.2.2.2.2;omega
     have hpos:=HQ.out
     have hfe:(feedsF (1+i) pre).length<=65536:=by have:=feedsF_len pre (1+i);have:=AA.out;omega
     obtain⟨S,hS⟩:∃ S,S=i+pre.length:=⟨_,rfl⟩
     have hms:=hI.ms
     have HMS:=qH hms
     clear hms hpos
     rw[<-hS] at c1
     have s1:IntKind.i64.wrap ((S:Int)+1)=((S+1:Nat):Int):=by rw[IntWalk.i64_in _ (by have:=AA.out;have:=hg1.lim;have:=hg1.h2;omega)];omega
     by_cases h10:c=10
     ·have d10:((c:Int) ==(10:Int))=true:=by simp[h10]
      have n10:(c=10)=True:=eq_true h10
      obtain⟨v',w2,happ,hown2,hb2,hon2,_⟩:=append_elem eltI hfr1 hsz2 (((S+1:Nat):Int)) (by omega) (by omega)
      have HP:Hid (∀ ty,(Builtin.append_ #[78,78] ty #[u11,.slice (some ⟨w1.heap.size,0,none⟩) 1 1]).run Tryz.prog (w1.alloc (.cells #[.int .i64 (((S+1:Nat):Int))] 3))=.ok v' w2):=qH happ
      clear happ
      have HQQ:=qH (⟨hown2,hb2,hon2,hd3,hd4,hit1,hg1,ht1,hr1,hfd1,hof1,hsz2,hroom,hS,hfe,hft,hfg,hKw,hnK,hpp,hlt⟩:_/\_/\_/\_/\_/\_/\_/\_/\_/\_/\_/\_/\_/\_/\_/\_/\_/\_/\_/\_/\_)
      clear hown2 hb2 hon2 hd3 hd4 hit1 hg1 ht1 hr1 hfd1 hof1 hsz2 hroom hS hfe hft hfg hKw hnK hpp hlt hfr1 hoth hsz1 hon1 hI hip hle hc h10
      go_wp2_with (at_builtin;refine wpList_app_run (v:=u11) (u:=.slice (some ⟨w1.heap.size,0,none⟩) 1 1) rfl _ _ _ rfl rfl rfl HP.out ?_)
      obtain⟨hown2,hb2,hon2,hd3,hd4,hit1,hg1,ht1,hr1,hfd1,hof1,hsz2,hroom,hS,hfe,hft,hfg,hKw,hnK,hpp,hlt⟩:=HQQ.out
      clear HP HQQ c0 c1
      have hk2:∀ k,k<=K->w2.heap[k]?=w1.heap[k]?:=fun k hk=>hb2.block k (by omega)
      have hg2:GapW w2 t g' B1 (i+pre.length) en' (.slice A X.length cap):=hg1.kept (hk2 _ (by omega)) (hk2 _ (by omega))
      have hfd2:=hfd1.kept (fun q hq=>hk2 q (by have:=hnK.2.2 q hq;omega))
      have hof2:Only (gapFoot t g (.slice A X.length cap)) w w2:=hof1.then (T:=fun k=>K+1<=k) ⟨hb2.os,hb2.tape,hb2.output,hb2.size,fun j hj hj2=>hb2.block j (by omega)⟩ (fun j hj hj2=>by omega)
      have hsz2':K+1<=w2.heap.size:=Nat.le_trans hsz2 hb2.size
      have hit2:=(hk2 K (Nat.le_refl _)).trans hit1
      have hfr3:ROwn encI 3 1 (K+1) w2 v' (feedsF (1+i) (pre++[c])):=by
       rw[feedsF_snoc,if_pos (by have:=eq_of_beq d10;omega)]
       have e:((1+i+pre.length:Nat):Int)=((S+1:Nat):Int):=by omega
       rw[e];exact hown2
      obtain⟨cx,hcx,c0⟩:=hg2.c0
      have c1:w2.cell? ⟨t,1,none⟩=some (.int .i64 (S:Int)):=by rw[hS];exact hg2.c1
      have e1:S<B1.length:=by have:=hg2.h2;omega
      obtain⟨zz,hzz⟩:∃ zz,B1[S]?=some zz:=⟨_,List.getElem?_eq_getElem e1⟩
      have q2:=hg2.at_ hzz
      have qf:=hg2.fzG S
      have qf1:=hg2.fzT 1
      have htg:=hg2.tg
      have hgt:=htg.symm
      have HREL:=qH (InsL.step hd3 HMS.out hd4 hit2 hg2 ht1 hr1 hfd2 hfr3 hof2 hsz2' hft hfg ⟨hnK.1,hnK.2.1,hnK.2.2⟩ hroom)
      rw[<-hS] at HREL
      have HIT:=qH hit2
      have HNK:=qH hnK
      have HPP:=qH (⟨hpp,hlt,hd3⟩:_/\_/\_)
      clear hzz hlt hd3 hd4 hit1 hit2 hpp hg1 hg2 ht1 hr1 hfd1 hfd2 hof1 hof2 hsz2 hsz2' hroom hfe hfr3 hk2 hown2 hb2 hon2 hft hfg hKw hnK hS
      go_wp2_with fail
      go_region
      go_wp2_with fail
      go_roundw
      case rel=>exact⟨_,_,_,HREL.out⟩
      case measure=>
       obtain⟨hpp,hlt,hd3⟩:=HPP.out
       have e:(((w2.setCell ⟨g',S,none⟩ (.int .i32 c)).setCell ⟨t,1,none⟩ (.int .i64 ((S+1:Nat):Int))).drew).iterPos K=p2:=iterPos_of (by
        exact((Below.heap_setCell _ ⟨t,1,none⟩ _ _ (show K≠t by have:=HNK.out;omega)).trans (Below.heap_setCell _ ⟨g',S,none⟩ _ _ (show K≠g' by have:=HNK.out;omega))).trans HIT.out)
       first
       |(rw[e];omega)
       |(have e2:=e;simp only[Int.natCast_add,Int.natCast_one] at e2;rw[e2];omega)
     ·have d10:((c:Int) ==(10:Int))=false:=by simp;omega
      have n10:(c=10)=False:=eq_false h10
      have hfr3:ROwn encI 3 1 (K+1) w1 u11 (feedsF (1+i) (pre++[c])):=by
       rw[feedsF_snoc,if_neg h10,List.append_nil];exact hfr1
      have e1:S<B1.length:=by have:=hg1.h2;omega
      obtain⟨zz,hzz⟩:∃ zz,B1[S]?=some zz:=⟨_,List.getElem?_eq_getElem e1⟩
      have q2:=hg1.at_ hzz
      have qf:=hg1.fzG S
      have qf1:=hg1.fzT 1
      have htg:=hg1.tg
      have hgt:=htg.symm
      have HREL:=qH (InsL.step hd3 HMS.out hd4 hit1 hg1 ht1 hr1 hfd1 hfr3 hof1 hsz2 hft hfg ⟨hnK.1,hnK.2.1,hnK.2.2⟩ hroom)
      rw[<-hS] at HREL
      have HIT:=qH hit1
      have HNK:=qH hnK
      have HPP:=qH (⟨hpp,hlt,hd3⟩:_/\_/\_)
      clear hzz hI hip hle hlt hd3 hd4 hc hit1 hoth hsz1 hon1 hpp hg1 ht1 hr1 hfd1 hfr1 hof1 hsz2 hroom hfe hfr3 hft hfg hKw hnK h10 hS
      go_wp2_with fail
      go_region
      go_wp2_with fail
      go_roundw
      case rel=>exact⟨_,_,_,HREL.out⟩
      case measure=>
       obtain⟨hpp,hlt,hd3⟩:=HPP.out
       have e:(((w1.setCell ⟨g',S,none⟩ (.int .i32 c)).setCell ⟨t,1,none⟩ (.int .i64 ((S+1:Nat):Int))).drew).iterPos K=p2:=iterPos_of (by
        exact((Below.heap_setCell _ ⟨t,1,none⟩ _ _ (show K≠t by have:=HNK.out;omega)).trans (Below.heap_setCell _ ⟨g',S,none⟩ _ _ (show K≠g' by have:=HNK.out;omega))).trans HIT.out)
       first
       |(rw[e];omega)
       |(have e2:=e;simp only[Int.natCast_add,Int.natCast_one] at e2;rw[e2];omega)
    ·have hp2:p'=s.size:=by have:=hI.hp;omega
     have hrn:rest=[]:=by
      have h3:s.data.toList.drop p'=[]:=List.drop_eq_nil_of_le (by rw[hp2];simp)
      have h4:=hI.rest
      rw[h3,charsD_nil] at h4
      cases h4;rfl
     subst hrn
     have hms:=hI.ms
     rw[List.append_nil] at hms
     obtain rfl:pre=ms:=hms.symm
     have hnx:=fun ty=>Lib.run_next_end_at (P:=Tryz.prog) wr K s p' ty hI.it hlt
     obtain⟨B1,hg1,ht1,hr1⟩:=hI.gw
     have hfd:=hI.fd
     have hfr:=hI.fr
     have hon:=hI.on
     have hsz:=hI.sz
     have hXl:=HQ.out.2.2.2.2.1
     have hi2l:=HQ.out.2.2.2.2.2.2.2.1
     have hXb:(X.take i2++(X.drop i2).map (fun z=>z+(n:Int))).length=X.length:=by simp;omega
     have hfl:(feedsF (1+i) pre).length<=n:=by have:=feedsF_len pre (1+i);have:=AA.out;omega
     have hn6:n<=65536:=by have:=AA.out;omega
     have hIns:=sinsert_own (i:=i2) hfd hfr (fun q hq e=>by have:=hnK.2.2 q hq;have:=hfr.base e;omega) (by rw[hXb];exact hi2l) (by omega) (Nat.zero_le _)
     have c3:wr.cell? ⟨t,3,none⟩=some (.slice A X.length cap):=hg1.c3
     have f3:=hg1.fzT 3
     have HIns:=qH hIns
     have RR:=qH (⟨hg1,ht1,hr1,hfd,hon,hsz,hft,hfg,hKw,hnK,hXb⟩:_/\_/\_/\_/\_/\_/\_/\_/\_/\_/\_)
     clear hI hip hle hlt hp2 hms hg1 ht1 hr1 hfd hfr hon hsz hXl hi2l hXb hfl hn6 hIns hft hfg hKw hnK
     go_wp2_with fail
     refine HIns.out.mono ?_
     rintro e w8 ⟨v',rfl,hown8,ho8,hb8⟩
     obtain⟨hg1,ht1,hr1,hfd,hon,hsz,hft,hfg,hKw,hnK,hXb⟩:=RR.out
     have hb8':∀ k,v'.ownBlock=some k->gapFoot t g (.slice A X.length cap) k\/w.heap.size<=k:=fun k hk=>(hb8 k hk).elim (fun h=>.inl (.inr (.inr h))) (fun h=>.inr (by omega))
     have hnt8:∀ k,v'.ownBlock=some k->k≠t/\k≠g':=fun k hk=>(hb8 k hk).elim (fun h=>(hnK.2.2 k h).2) (fun h=>by omega)
     have hg8:GapW w8 t g' B1 (i+pre.length) en' (.slice A X.length cap):=hg1.only ho8 (fun e=>(hnK.2.2 t e).2.1 rfl) (fun e=>(hnK.2.2 g' e).2.2 rfl)
     have hon8:Only (gapFoot t g (.slice A X.length cap)) w w8:=hon.trans (ho8.mono (fun k hk=>.inr (.inr hk)))
     obtain⟨A8,c8,rfl,hc81,hc82,hr8⟩:=hown8.shape eltI
     have f3:=hg8.fzT 3
     have c3:=hg8.c3
     have hzl:(List.take i2 (X.take i2++(X.drop i2).map (fun z=>z+(n:Int)))++feedsF (1+i) pre++List.drop i2 (X.take i2++(X.drop i2).map (fun z=>z+(n:Int))))=feeds (insC cs p pre):=by
      obtain⟨_,_,_,_,_,hX,hi2,_,_⟩:=HQ.out
      have hpi:p - 1=i:=by have:=AA.out;omega
      have hn:n=pre.length:=AA.out.2.1
      have hil:(cs.take i).length=i:=by have:=AA.out;simp;omega
      unfold insC
      rw[hpi,feeds_ins,hil]
      have hsp:=feeds_split (cs.take i) (cs.drop i)
      rw[List.take_append_drop,hil,<-hX] at hsp
      have e1:X.take i2=feeds (cs.take i):=by rw[hsp,hi2];simp
      have e2:X.drop i2=feedsF (1+i) (cs.drop i):=by rw[hsp,hi2];simp
      rw[e1,e2,hn]
      have e3:i2=(feeds (cs.take i)).length:=hi2
      rw[e3];simp
     rw[hzl] at hown8 hb8' hnt8
     have HF:=qH (⟨hg8,hon8,hown8,hb8',hnt8,ht1,hr1,hft,hfg⟩:_/\_/\_/\_/\_/\_/\_/\_/\_)
     rw[hzl]
     clear RR hg1 ht1 hr1 hfd hon hsz hft hfg hKw hnK hXb hb8 ho8 hg8 hon8 hown8 hb8' hnt8 hc81 hc82 hr8 hzl
     go_wp2_with fail
     go_ret
     obtain⟨hg8,hon8,hown8,hb8',hnt8,ht1,hr1,hft,hfg⟩:=HF.out
     refine⟨rfl,hon8.setCell (p:=⟨t,3,none⟩) hft _,g',_,B1,i+pre.length,en',⟨hg8.setF _,hown8.kept (fun q hq=>Below.heap_setCell _ _ _ _ (hnt8 q hq).1),hnt8,?_,?_,?_⟩,?_⟩
     ·have hpi:p - 1=i:=by have:=AA.out;omega
      have htx:=HQ.out.2.2.2.1
      rw[ht1,hr1]
      unfold insC
      rw[hpi,List.map_append,List.map_append,List.append_assoc,List.append_assoc]
      have hil:(B6.take i).length=i:=by have:=hg8.h1;have:=hg8.h2;have e:=congrArg List.length ht1;simp at e;simp;omega
      have e1:(cs.map Int.ofNat).take i=B6.take i:=by rw[<-htx,List.take_append_of_le_length (by omega),List.take_of_length_le (by omega)]
      have e2:(cs.map Int.ofNat).drop i=B6.drop en':=by rw[<-htx,List.drop_append,List.drop_eq_nil_of_le (by omega),hil];simp
      rw[List.map_take,List.map_drop,e1,e2]
     ·intro c hc
      unfold insC at hc
      rw[List.mem_append,List.mem_append] at hc
      rcases hc with (hc|hc)|hc
      ·exact H.out.cn c (List.mem_of_mem_take hc)
      ·exact AA.out.2.2.2.2.2.2.2.2.2.1 c hc
      ·exact H.out.cn c (List.mem_of_mem_drop hc)
     ·have:=AA.out
      unfold insC
      simp only[List.length_append,List.length_take,List.length_drop]
      omega
     ·intro k hk
      rcases hk with rfl|rfl|hk
      ·exact .inl hft
      ·exact hfg
      ·exact hb8' k hk
end
end Go.Proofs.YtkpoodjhjfmfjaaGreatDoor
namespace Go.Proofs.YtkpoodjhjfmfjaaGreatDoor
open Go.RowKit
section
variable {w w' : World} {N l B : Nat}
end
end Go.Proofs.YtkpoodjhjfmfjaaGreatDoor
namespace Go.Proofs.YtkpoodjhjfmfjaaGreatDoor
open Go.RowKit
def Enters (F:FuncId):Prop:=∀(args:Array Value) (w:World),(callFunc F args).run Tryz.prog w=.ok (.enter F args) w
theorem enters_mk {F:FuncId} {fn:Func} {c:Code} (hf:Tryz.prog.funcs[F]?=some fn) (hname:(fn.name == "runtime.NumGoroutine")=false) (hb:fn.body=some c):Enters F:=fun args w=>by
 have h1:fn.name≠"runtime.NumGoroutine":=by simpa using hname
 simp[callFunc,hf,h1,hb]
def int2:Value->Value->Nat
 | .int _ a,.int _ b=>(b - a).toNat
 | _,_=>0
section
variable {w w' : World} {A : Option Addr} {c : Int} {L : List (Int × Int)}
end
end Go.Proofs.YtkpoodjhjfmfjaaGreatDoor
namespace Go.Proofs.YtkpoodjhjfmfjaaGreatDoor
open Go.RowKit Go.Lib
structure Chg where
 k:Int
 a:Int
 b:Int
 id:Int
 nm:Int
 tx:ByteArray
 vk:Int
 vn:Int
 had:Bool
abbrev encCg (c:Chg):List Value:=[.int .i64 c.k,.int .i64 c.a,.int .i64 c.b,.int .i64 c.id,.int .i64 c.nm,.string c.tx,.int .i64 c.vk,.int .i64 c.vn,.bool c.had]
abbrev chgA (c:Chg):Array Value:=#[.int .i64 c.k,.int .i64 c.a,.int .i64 c.b,.int .i64 c.id,.int .i64 c.nm,.string c.tx,.int .i64 c.vk,.int .i64 c.vn,.bool c.had]
abbrev chgV (c:Chg):Value:=.agg (chgA c)
abbrev chg0:Chg:=⟨0,0,0,0,0,⟨#[]⟩,0,0,false⟩
theorem eltCg:Elt encCg 117 121 9 80 (chgV chg0):=⟨Tryz.underlying117,by kernel_rfl,rfl,by omega,fun _=>rfl,fun x u hu=>by simp at hu;rcases hu with rfl|rfl|rfl|rfl|rfl|rfl|rfl|rfl|rfl<;>rfl⟩
section
variable {w w' : World} {A : Option Addr} {zs : List Chg} {B : Nat} {v : Value}
set_option maxRecDepth 100000 in
set_option maxHeartbeats 1000000 in
theorem cloneCg (h:RSl encCg w A zs) (c:Nat) (hl:zs.length<=1100000):Calls Tryz.prog 162 #[.slice A zs.length c] w fun r w'=>∃ v,r=.returned v/\ROwn encCg 121 9 w.heap.size w' v zs/\Below w.heap.size w w':=by
 have h0:=ROwn.empty (enc:=encCg) (E:=121) (k:=9) w.heap.size w (Nat.le_refl _)
 obtain⟨v',w',happ,hown',hg,_⟩:=append_run eltCg h0 (by simp) (h.up (below1 _ _)) c (by simp;omega) (by omega)
 have HP:=qH happ
 clear happ
 rcases A with _|a
 ·have hL:zs=[]:=by
   rcases Nat.eq_zero_or_pos zs.length with h1|h1
   ·exact List.eq_nil_of_length_eq_zero h1
   ·obtain⟨g,o,e,_⟩:=h h1;cases e
  subst hL
  have hnil:=fun w=>Lib.run_eql_slice_nil (P:=Tryz.prog) w 117 121 none 0 c 0 0 Tryz.underlying117
  go_enter Tryz.func162,Tryz.ntmps162
  go_wp2_with fail
  go_ret
  exact⟨_,rfl,ROwn.nil _ _,Below.refl _ _⟩
 ·have hnil:=fun w=>Lib.run_eql_slice_nil (P:=Tryz.prog) w 117 121 (some a) zs.length c 0 0 Tryz.underlying117
  go_enter Tryz.func162,Tryz.ntmps162
  go_wp2_with (at_builtin;refine wpList_app_run rfl _ _ _ rfl rfl rfl HP.out ?_)
  go_ret
  exact⟨_,rfl,by simpa using hown',(below1 _ _).grown hg (by simp) (fun k hk=>h0.base hk)⟩
def revI (zs:List Chg) (i:Nat):List Chg:=zs.mapIdx fun t c=>if t<i\/zs.length - i<=t then zs.getD (zs.length - 1 - t) chg0 else c
theorem revI_len {zs:List Chg} {i:Nat}:(revI zs i).length=zs.length:=by unfold revI;simp
theorem revI_get {zs:List Chg} {i t:Nat} (h:t<zs.length):(revI zs i)[t]?=some (if t<i\/zs.length - i<=t then zs.getD (zs.length - 1 - t) chg0 else zs.getD t chg0):=by
 unfold revI
 rw[List.getElem?_mapIdx,List.getElem?_eq_getElem h]
 simp only[Option.map_some,List.getD_eq_getElem?_getD,List.getElem?_eq_getElem h,Option.getD_some]
theorem ext_get {xs ys:List Chg} (hl:xs.length=ys.length) (h:∀ t,t<xs.length->xs[t]?=ys[t]?):xs=ys:=by
 apply List.ext_getElem?
 intro t
 rcases Nat.lt_or_ge t xs.length with h1|h1
 ·exact h t h1
 ·rw[List.getElem?_eq_none h1,List.getElem?_eq_none (by omega)]
theorem getD_get {zs:List Chg} {t:Nat} (h:t<zs.length):some (zs.getD t chg0)=zs[t]?:=by
 rw[List.getD_eq_getElem?_getD,List.getElem?_eq_getElem h];rfl
theorem revI_zero (zs:List Chg):revI zs 0=zs:=by
 refine ext_get revI_len fun t ht=>?_
 rw[revI_len] at ht
 rw[revI_get ht,if_neg (by omega),getD_get ht]
theorem revI_end {zs:List Chg} {i:Nat} (h:¬ 2*i+1<zs.length):revI zs i=zs.reverse:=by
 refine ext_get (by rw[revI_len];simp) fun t ht=>?_
 rw[revI_len] at ht
 rw[revI_get ht,List.getElem?_reverse ht]
 split
 ·exact getD_get (by omega)
 ·rw[show zs.length - 1 - t=t by omega,getD_get ht]
theorem revI_step {zs:List Chg} {i q:Nat} {x y:Chg} (h:2*i+1<zs.length) (hq:zs.length - 1 - i=q) (hx:(revI zs i)[i]?=some x) (hy:(revI zs i)[q]?=some y):((revI zs i).set i y).set q x=revI zs (i+1):=by
 rw[revI_get (by omega),if_neg (by omega)] at hx hy
 refine ext_get (by simp[revI_len]) fun t ht=>?_
 simp only[List.length_set,revI_len] at ht
 rw[revI_get ht]
 by_cases h1:t=q
 ·subst h1
  rw[List.getElem?_set_self (by simp[revI_len];omega),if_pos (by omega),<-hx,show zs.length - 1 - t=i by omega]
 ·rw[List.getElem?_set_ne (fun e=>h1 e.symm)]
  by_cases h2:t=i
  ·subst h2
   rw[List.getElem?_set_self (by simp[revI_len];omega),if_pos (by omega),<-hy,hq]
  ·rw[List.getElem?_set_ne (fun e=>h2 e.symm),revI_get ht]
   by_cases h3:t<i\/zs.length - i<=t
   ·rw[if_pos h3,if_pos (by omega)]
   ·rw[if_neg h3,if_neg (by omega)]
theorem ROwn.putN {g cap n:Nat} {xs:List Chg} {w:World} (hn:n=xs.length) (h:ROwn encCg 121 9 B w (.slice (some ⟨g,0,none⟩) n cap) xs) {i j:Nat} {x y:Chg} {u:Value} (hi:xs[i]?=some x) (hj:j<9) (he:encCg y=(encCg x).set j u) :
  ROwn encCg 121 9 B (w.setCell ⟨g,i*9+j,none⟩ u) (.slice (some ⟨g,0,none⟩) n cap) (xs.set i y):=by
 subst hn;exact ROwn.put eltCg h hi hj he
theorem get_set {xs:List Chg} {i:Nat} {x y:Chg} (h:xs[i]?=some x):(xs.set i y)[i]?=some y:=List.getElem?_set_self (List.getElem?_eq_some_iff.1 h).1
theorem ROwn.put9 {g cap n:Nat} {xs:List Chg} {w:World} (hn:n=xs.length) (h:ROwn encCg 121 9 B w (.slice (some ⟨g,0,none⟩) n cap) xs) {i:Nat} {x:Chg} (hi:xs[i]?=some x) (k a b id nm:Int) (tx:ByteArray) (vk vn:Int) (had:Bool) :
  ROwn encCg 121 9 B (((((((((w.setCell ⟨g,i*9,none⟩ (.int .i64 k)).setCell ⟨g,i*9+1,none⟩ (.int .i64 a)).setCell ⟨g,i*9+2,none⟩ (.int .i64 b)).setCell ⟨g,i*9+3,none⟩ (.int .i64 id)).setCell ⟨g,i*9+4,none⟩ (.int .i64 nm)).setCell ⟨g,i*9+5,none⟩ (.string tx)).setCell ⟨g,i*9+6,none⟩ (.int .i64 vk)).setCell ⟨g,i*9+7,none⟩ (.int .i64 vn)).setCell ⟨g,i*9+8,none⟩ (.bool had)) (.slice (some ⟨g,0,none⟩) n cap) (xs.set i ⟨k,a,b,id,nm,tx,vk,vn,had⟩):=by
 obtain⟨xk,xa,xb,xid,xnm,xtx,xvk,xvn,xhd⟩:=x
 have e0:=h.putN hn hi (j:=0) (y:=⟨k,xa,xb,xid,xnm,xtx,xvk,xvn,xhd⟩) (u:=.int .i64 k) (by omega) rfl
 have e1:=e0.putN (by simpa using hn) (get_set hi) (j:=1) (y:=⟨k,a,xb,xid,xnm,xtx,xvk,xvn,xhd⟩) (u:=.int .i64 a) (by omega) rfl
 rw[List.set_set] at e1
 have e2:=e1.putN (by simpa using hn) (get_set hi) (j:=2) (y:=⟨k,a,b,xid,xnm,xtx,xvk,xvn,xhd⟩) (u:=.int .i64 b) (by omega) rfl
 rw[List.set_set] at e2
 have e3:=e2.putN (by simpa using hn) (get_set hi) (j:=3) (y:=⟨k,a,b,id,xnm,xtx,xvk,xvn,xhd⟩) (u:=.int .i64 id) (by omega) rfl
 rw[List.set_set] at e3
 have e4:=e3.putN (by simpa using hn) (get_set hi) (j:=4) (y:=⟨k,a,b,id,nm,xtx,xvk,xvn,xhd⟩) (u:=.int .i64 nm) (by omega) rfl
 rw[List.set_set] at e4
 have e5:=e4.putN (by simpa using hn) (get_set hi) (j:=5) (y:=⟨k,a,b,id,nm,tx,xvk,xvn,xhd⟩) (u:=.string tx) (by omega) rfl
 rw[List.set_set] at e5
 have e6:=e5.putN (by simpa using hn) (get_set hi) (j:=6) (y:=⟨k,a,b,id,nm,tx,vk,xvn,xhd⟩) (u:=.int .i64 vk) (by omega) rfl
 rw[List.set_set] at e6
 have e7:=e6.putN (by simpa using hn) (get_set hi) (j:=7) (y:=⟨k,a,b,id,nm,tx,vk,vn,xhd⟩) (u:=.int .i64 vn) (by omega) rfl
 rw[List.set_set] at e7
 have e8:=e7.putN (by simpa using hn) (get_set hi) (j:=8) (y:=⟨k,a,b,id,nm,tx,vk,vn,had⟩) (u:=.bool had) (by omega) rfl
 rw[List.set_set] at e8
 exact e8
theorem only9 {g o:Nat} {w:World} (v0 v1 v2 v3 v4 v5 v6 v7 v8:Value):Only (fun k=>k=g) w (((((((((w.setCell ⟨g,o,none⟩ v0).setCell ⟨g,o+1,none⟩ v1).setCell ⟨g,o+2,none⟩ v2).setCell ⟨g,o+3,none⟩ v3).setCell ⟨g,o+4,none⟩ v4).setCell ⟨g,o+5,none⟩ v5).setCell ⟨g,o+6,none⟩ v6).setCell ⟨g,o+7,none⟩ v7).setCell ⟨g,o+8,none⟩ v8):=
 ((((((((Only.setCell (S:=fun k=>k=g) (p:=⟨g,o,none⟩) (Only.refl _ w) rfl v0).setCell (p:=⟨g,o+1,none⟩) rfl v1).setCell (p:=⟨g,o+2,none⟩) rfl v2).setCell (p:=⟨g,o+3,none⟩) rfl v3).setCell (p:=⟨g,o+4,none⟩) rfl v4).setCell (p:=⟨g,o+5,none⟩) rfl v5).setCell (p:=⟨g,o+6,none⟩) rfl v6).setCell (p:=⟨g,o+7,none⟩) rfl v7).setCell (p:=⟨g,o+8,none⟩) rfl v8
set_option maxRecDepth 100000 in
set_option maxHeartbeats 2000000 in
theorem revCg (h:ROwn encCg 121 9 B w v zs) (hl:zs.length<=1100000):Calls Tryz.prog 163 #[v] w fun r w'=>r=.returned (.tuple #[])/\ROwn encCg 121 9 B w' v zs.reverse/\Only (fun k=>v.ownBlock=some k) w w':=by
 obtain⟨A,cap,rfl,h1,h2,h3⟩:=h.shape eltCg
 have H:=qH h
 have s1:IntKind.i64.wrap ((zs.length:Int) - 1)=(zs.length:Int) - 1:=IntWalk.i64_in _ (by omega)
 go_enter Tryz.func163,Tryz.ntmps163
 go_wp2_with fail
 go_loopw [2,3] (fun va vb wr=>∃ i:Nat,2*i<=zs.length+1/\va=.int .i64 i/\vb=.int .i64 ((zs.length:Int) - 1 - i)/\ROwn encCg 121 9 B wr (.slice A zs.length cap) (revI zs i)/\Only (fun k=>(Value.slice A zs.length cap).ownBlock=some k) w wr) (fun va _ _=>int2 va (.int .i64 zs.length))
 case atStart=>exact⟨0,by omega,rfl,by simp,by rw[revI_zero];exact H.out,Only.refl _ _⟩
 case round=>
  obtain⟨i,hi,rfl,rfl,hr,ho⟩:=hrel
  by_cases hlt:2*i+1<zs.length
  ·have d1:decide ((i:Int)<(zs.length:Int) - 1 - i)=true:=decide_eq_true (by omega)
   have d2:((i:Int)<(zs.length:Int) - 1 - i)=True:=eq_true (by omega)
   obtain⟨g,cap',e,hc1,hc2,hB,hg,hfz,hcell⟩:=hr.lies eltCg (by rw[revI_len];omega)
   rw[revI_len] at e hfz
   cases e
   obtain⟨x,hx⟩:∃ x,(revI zs i)[i]?=some x:=⟨_,List.getElem?_eq_getElem (by rw[revI_len];omega)⟩
   obtain⟨y,hy⟩:∃ y,(revI zs i)[zs.length - 1 - i]?=some y:=⟨_,List.getElem?_eq_getElem (by rw[revI_len];omega)⟩
   have hcx:=fun j u=>hcell i x j u hx
   have hcy:=fun j u=>hcell _ y j u hy
   obtain⟨q,hq⟩:∃ q:Nat,zs.length - 1 - i=q:=⟨_,rfl⟩
   have hq2:(zs.length:Int) - 1 - i=q:=by omega
   rw[hq] at hcy hy
   rw[hq2] at d1 d2 ⊢
   have HS:=qH (revI_step hlt hq hx hy)
   have HR:=qH hr
   have HX:=qH hx
   have HY:=qH hy
   have HQ:=qH (show q≠i by omega)
   have HO:=qH ho
   have HL:=qH (revI_len (zs:=zs) (i:=i))
   obtain⟨n,hn⟩:∃ n,n=zs.length:=⟨_,rfl⟩
   have HNN:=qH hn
   simp only[<-hn] at *
   clear hn
   have hqn:q<n:=by omega
   have hin:i<n:=by omega
   have hqi:(q:Int)<n:=by omega
   have hii:(i:Int)<n:=by omega
   obtain⟨xk,xa,xb,xid,xnm,xtx,xvk,xvn,xhd⟩:=x
   obtain⟨yk,ya,yb,yid,ynm,ytx,yvk,yvn,yhd⟩:=y
   have x0:=hcx 0 _ rfl
   have x1:=hcx 1 _ rfl
   have x2:=hcx 2 _ rfl
   have x3:=hcx 3 _ rfl
   have x4:=hcx 4 _ rfl
   have x5:=hcx 5 _ rfl
   have x6:=hcx 6 _ rfl
   have x7:=hcx 7 _ rfl
   have x8:=hcx 8 _ rfl
   have y0:=hcy 0 _ rfl
   have y1:=hcy 1 _ rfl
   have y2:=hcy 2 _ rfl
   have y3:=hcy 3 _ rfl
   have y4:=hcy 4 _ rfl
   have y5:=hcy 5 _ rfl
   have y6:=hcy 6 _ rfl
   have y7:=hcy 7 _ rfl
   have y8:=hcy 8 _ rfl
   have hfx:∀ j,j<9->wr.frozen? ⟨g,i*9+j,none⟩=false:=fun j hj=>hfz _ (by omega)
   have hfy:∀ j,j<9->wr.frozen? ⟨g,q*9+j,none⟩=false:=fun j hj=>hfz _ (by omega)
   have fx0:=hfx 0 (by omega)
   have fx1:=hfx 1 (by omega)
   have fx2:=hfx 2 (by omega)
   have fx3:=hfx 3 (by omega)
   have fx4:=hfx 4 (by omega)
   have fx5:=hfx 5 (by omega)
   have fx6:=hfx 6 (by omega)
   have fx7:=hfx 7 (by omega)
   have fx8:=hfx 8 (by omega)
   have fy0:=hfy 0 (by omega)
   have fy1:=hfy 1 (by omega)
   have fy2:=hfy 2 (by omega)
   have fy3:=hfy 3 (by omega)
   have fy4:=hfy 4 (by omega)
   have fy5:=hfy 5 (by omega)
   have fy6:=hfy 6 (by omega)
   have fy7:=hfy 7 (by omega)
   have fy8:=hfy 8 (by omega)
   rw[Nat.add_zero] at x0 y0 fx0 fy0
   clear hcell hcx hcy hfx hfy hfz hx hy
   go_wp2_with fail
   go_region
   go_wp2_with fail
   go_roundw
   case rel=>
    refine⟨i+1,by omega,by first|rfl|go_num,by congr 1;omega,?_,?_⟩
    ·have a1:=HR.out.put9 HL.out.symm HX.out yk ya yb yid ynm ytx yvk yvn yhd
     have a2:=a1.put9 (by rw[List.length_set];exact HL.out.symm) (i:=q) (by rw[List.getElem?_set_ne (fun e=>HQ.out e.symm)];exact HY.out) xk xa xb xid xnm xtx xvk xvn xhd
     rw[HS.out] at a2
     exact a2.up ((Below.refl _ _).drew)
    ·exact(HO.out.trans (((only9 _ _ _ _ _ _ _ _ _).trans (only9 _ _ _ _ _ _ _ _ _)).mono (fun k hk=>by subst hk;rfl))).drew
   case measure=>simp[int2];omega
  ·have d1:decide ((i:Int)<(zs.length:Int) - 1 - i)=false:=decide_eq_false (by omega)
   have d2:((i:Int)<(zs.length:Int) - 1 - i)=False:=eq_false (by omega)
   go_wp2_with fail
   go_end0
   exact⟨rfl,by rw[<-revI_end hlt];exact hr,ho⟩
end
end Go.Proofs.YtkpoodjhjfmfjaaGreatDoor
namespace Go.Proofs.YtkpoodjhjfmfjaaGreatDoor
open Go.RowKit Go.Lib
def priceC (c:Chg):Nat:=if c.k=2 then 1+(chrs c.tx).length else 1
structure ChgOk (c:Chg):Prop where
 k:c.k=1\/c.k=2\/c.k=3\/c.k=4\/c.k=5\/c.k=6
 a:c.k≠6->1<=c.a/\c.a<=1099511627776
 b:c.k=1\/c.k=5->c.a<=c.b/\c.b<=1099511627776
 nm:c.k=5->0<=c.nm
 tx:c.k=2->(charsD c.tx.data.toList).isSome=true/\c.tx.size<=262144
section
variable {w w' : World} {N l : Nat}
set_option maxHeartbeats 1000000 in
theorem gprice {c:Chg} (h:ChgOk c) (hT:Tabs N w):Calls Tryz.prog 211 #[chgV c] w fun e w'=>e=.returned (.int .i64 (priceC c))/\Below w.heap.size w w':=by
 unfold priceC
 obtain⟨k,a,b,id,nm,tx,vk,vn,had⟩:=c
 by_cases hk:k=2
 ·subst hk
  obtain⟨hv,hs⟩:=h.tx rfl
  have hL:=fun w (hT:Tabs N w)=>runesLen tx w (by dsimp only at hs;omega) hT
  dsimp only at hv hs
  rw[rlenG_chars hv] at hL
  have hn:=chrs_len tx
  rw[if_pos rfl]
  have hB:=below1 w (.cells (chgA ⟨2,a,b,id,nm,tx,vk,vn,had⟩) 121)
  have HL:=qH (hL _ (hT.up hB))
  have HBB:=qH hB
  have s1:IntKind.i64.wrap (1+((chrs tx).length:Int))=((1+(chrs tx).length:Nat):Int):=by rw[IntWalk.i64_in _ (by omega)];omega
  generalize (chrs tx).length=n at *
  clear hL hn hB h hT hv hs
  go_enter Tryz.func211,Tryz.ntmps211
  go_wp2_with fail
  refine HL.out.mono ?_
  rintro e w1 ⟨rfl,hb1⟩
  go_wp2_with fail
  go_ret
  exact⟨by first|rfl|(dsimp only;go_num),up2 HBB.out hb1⟩
 ·rw[if_neg hk]
  have d0:((k:Int) == 2)=false:=by simpa using hk
  have n0:(k=2)=False:=eq_false hk
  clear h hT hk
  go_enter Tryz.func211,Tryz.ntmps211
  go_wp2_with fail
  go_ret
  exact⟨rfl,below1 w _⟩
set_option maxHeartbeats 2000000 in
theorem gcheck1 (a b id nm:Int) (tx:ByteArray) (vk vn:Int) (had:Bool) (h:ChgOk ⟨1,a,b,id,nm,tx,vk,vn,had⟩) (hT:Tabs N w) (hR:Rules N w):Calls Tryz.prog 267 #[chgV ⟨1,a,b,id,nm,tx,vk,vn,had⟩] w fun e w'=>e=.returned (.int .i64 0)/\Below w.heap.size w w':=by
 obtain⟨a1,a2⟩:=h.a (by simp)
 dsimp only at a1 a2
 have d1:decide (a<1)=false:=decide_eq_false (by omega)
 have d2:decide ((1099511627776:Int)<a)=false:=decide_eq_false (by omega)
 have n1:(a<1)=False:=eq_false (by omega)
 obtain⟨b1,b2⟩:=h.b (by simp)
 dsimp only at b1 b2
 have d3:decide (b<a)=false:=decide_eq_false (by omega)
 have d4:decide ((1099511627776:Int)<b)=false:=decide_eq_false (by omega)
 have bb:=below1 w (.cells (chgA ⟨1,a,b,id,nm,tx,vk,vn,had⟩) 121)
 have q0:_=some (Value.bool true):=(hR.up bb).2 4 (by omega)
 have q1:_=some (Value.bool true):=(hR.up bb).2 5 (by omega)
 have q2:_=some (Value.bool false):=(hR.up bb).2 6 (by omega)
 have q3:_=some (Value.bool false):=(hR.up bb).2 7 (by omega)
 clear h hT hR bb a1 a2 b1 b2
 go_enter Tryz.func267,Tryz.ntmps267
 go_wp2_with fail
 all_goals (go_ret;exact⟨rfl,(below1 w _).alloc (by simp) _⟩)
set_option maxHeartbeats 2000000 in
theorem gcheck2 (a b id nm:Int) (tx:ByteArray) (vk vn:Int) (had:Bool) (h:ChgOk ⟨2,a,b,id,nm,tx,vk,vn,had⟩) (hT:Tabs N w) (hR:Rules N w):Calls Tryz.prog 267 #[chgV ⟨2,a,b,id,nm,tx,vk,vn,had⟩] w fun e w'=>e=.returned (.int .i64 0)/\Below w.heap.size w w':=by
 obtain⟨a1,a2⟩:=h.a (by simp)
 dsimp only at a1 a2
 have d1:decide (a<1)=false:=decide_eq_false (by omega)
 have d2:decide ((1099511627776:Int)<a)=false:=decide_eq_false (by omega)
 have n1:(a<1)=False:=eq_false (by omega)
 have bb:=below1 w (.cells (chgA ⟨2,a,b,id,nm,tx,vk,vn,had⟩) 121)
 have q0:_=some (Value.bool true):=(hR.up bb).2 8 (by omega)
 have q1:_=some (Value.bool false):=(hR.up bb).2 9 (by omega)
 have q2:_=some (Value.bool false):=(hR.up bb).2 10 (by omega)
 have q3:_=some (Value.bool true):=(hR.up bb).2 11 (by omega)
 obtain⟨hv,hs⟩:=h.tx rfl
 have hvl:vld tx=true:=by rw[vld_chars];exact hv
 dsimp only at hs
 have HV:=qH (fun w (hT:Tabs N w)=>(hvl▸valid_any tx w (by omega) hT:Calls Tryz.prog 168 #[.string tx] w fun e w'=>e=.returned (.bool true)/\Below w.heap.size w w'))
 have HT:=qH hT
 have BB:=qH bb
 clear hv hvl hs
 clear h hT hR bb a1 a2
 go_enter Tryz.func267,Tryz.ntmps267
 go_wp2_with fail
 refine(HV.out _ (HT.out.up (up2 BB.out (below1 _ _)))).mono ?_
 rintro e w2 ⟨rfl,hb2⟩
 go_wp2_with fail
 go_ret
 exact⟨rfl,up2 (up2 BB.out (below1 _ _)) hb2⟩
set_option maxHeartbeats 2000000 in
theorem gcheck3 (a b id nm:Int) (tx:ByteArray) (vk vn:Int) (had:Bool) (h:ChgOk ⟨3,a,b,id,nm,tx,vk,vn,had⟩) (hT:Tabs N w) (hR:Rules N w):Calls Tryz.prog 267 #[chgV ⟨3,a,b,id,nm,tx,vk,vn,had⟩] w fun e w'=>e=.returned (.int .i64 0)/\Below w.heap.size w w':=by
 obtain⟨a1,a2⟩:=h.a (by simp)
 dsimp only at a1 a2
 have d1:decide (a<1)=false:=decide_eq_false (by omega)
 have d2:decide ((1099511627776:Int)<a)=false:=decide_eq_false (by omega)
 have n1:(a<1)=False:=eq_false (by omega)
 have bb:=below1 w (.cells (chgA ⟨3,a,b,id,nm,tx,vk,vn,had⟩) 121)
 have q0:_=some (Value.bool true):=(hR.up bb).2 12 (by omega)
 have q1:_=some (Value.bool false):=(hR.up bb).2 13 (by omega)
 have q2:_=some (Value.bool false):=(hR.up bb).2 14 (by omega)
 have q3:_=some (Value.bool false):=(hR.up bb).2 15 (by omega)
 clear h hT hR bb a1 a2
 go_enter Tryz.func267,Tryz.ntmps267
 go_wp2_with fail
 all_goals (go_ret;exact⟨rfl,(below1 w _).alloc (by simp) _⟩)
set_option maxHeartbeats 2000000 in
theorem gcheck4 (a b id nm:Int) (tx:ByteArray) (vk vn:Int) (had:Bool) (h:ChgOk ⟨4,a,b,id,nm,tx,vk,vn,had⟩) (hT:Tabs N w) (hR:Rules N w):Calls Tryz.prog 267 #[chgV ⟨4,a,b,id,nm,tx,vk,vn,had⟩] w fun e w'=>e=.returned (.int .i64 0)/\Below w.heap.size w w':=by
 obtain⟨a1,a2⟩:=h.a (by simp)
 dsimp only at a1 a2
 have d1:decide (a<1)=false:=decide_eq_false (by omega)
 have d2:decide ((1099511627776:Int)<a)=false:=decide_eq_false (by omega)
 have n1:(a<1)=False:=eq_false (by omega)
 have bb:=below1 w (.cells (chgA ⟨4,a,b,id,nm,tx,vk,vn,had⟩) 121)
 have q0:_=some (Value.bool true):=(hR.up bb).2 16 (by omega)
 have q1:_=some (Value.bool false):=(hR.up bb).2 17 (by omega)
 have q2:_=some (Value.bool false):=(hR.up bb).2 18 (by omega)
 have q3:_=some (Value.bool false):=(hR.up bb).2 19 (by omega)
 clear h hT hR bb a1 a2
 go_enter Tryz.func267,Tryz.ntmps267
 go_wp2_with fail
 all_goals (go_ret;exact⟨rfl,(below1 w _).alloc (by simp) _⟩)
set_option maxHeartbeats 2000000 in
theorem gcheck5 (a b id nm:Int) (tx:ByteArray) (vk vn:Int) (had:Bool) (h:ChgOk ⟨5,a,b,id,nm,tx,vk,vn,had⟩) (hT:Tabs N w) (hR:Rules N w):Calls Tryz.prog 267 #[chgV ⟨5,a,b,id,nm,tx,vk,vn,had⟩] w fun e w'=>e=.returned (.int .i64 0)/\Below w.heap.size w w':=by
 obtain⟨a1,a2⟩:=h.a (by simp)
 dsimp only at a1 a2
 have d1:decide (a<1)=false:=decide_eq_false (by omega)
 have d2:decide ((1099511627776:Int)<a)=false:=decide_eq_false (by omega)
 have n1:(a<1)=False:=eq_false (by omega)
 obtain⟨b1,b2⟩:=h.b (by simp)
 dsimp only at b1 b2
 have d3:decide (b<a)=false:=decide_eq_false (by omega)
 have d4:decide ((1099511627776:Int)<b)=false:=decide_eq_false (by omega)
 have c1:=h.nm rfl
 dsimp only at c1
 have d5:decide (nm<0)=false:=decide_eq_false (by omega)
 have bb:=below1 w (.cells (chgA ⟨5,a,b,id,nm,tx,vk,vn,had⟩) 121)
 have q0:_=some (Value.bool true):=(hR.up bb).2 20 (by omega)
 have q1:_=some (Value.bool true):=(hR.up bb).2 21 (by omega)
 have q2:_=some (Value.bool true):=(hR.up bb).2 22 (by omega)
 have q3:_=some (Value.bool false):=(hR.up bb).2 23 (by omega)
 clear h hT hR bb a1 a2 b1 b2 c1
 go_enter Tryz.func267,Tryz.ntmps267
 go_wp2_with fail
 all_goals (go_ret;exact⟨rfl,(below1 w _).alloc (by simp) _⟩)
set_option maxHeartbeats 2000000 in
theorem gcheck6 (a b id nm:Int) (tx:ByteArray) (vk vn:Int) (had:Bool) (h:ChgOk ⟨6,a,b,id,nm,tx,vk,vn,had⟩) (hT:Tabs N w) (hR:Rules N w):Calls Tryz.prog 267 #[chgV ⟨6,a,b,id,nm,tx,vk,vn,had⟩] w fun e w'=>e=.returned (.int .i64 0)/\Below w.heap.size w w':=by
 have bb:=below1 w (.cells (chgA ⟨6,a,b,id,nm,tx,vk,vn,had⟩) 121)
 have q0:_=some (Value.bool false):=(hR.up bb).2 24 (by omega)
 have q1:_=some (Value.bool false):=(hR.up bb).2 25 (by omega)
 have q2:_=some (Value.bool false):=(hR.up bb).2 26 (by omega)
 have q3:_=some (Value.bool false):=(hR.up bb).2 27 (by omega)
 clear h hT hR bb
 go_enter Tryz.func267,Tryz.ntmps267
 go_wp2_with fail
 all_goals (go_ret;exact⟨rfl,(below1 w _).alloc (by simp) _⟩)
theorem gcheck {c:Chg} (h:ChgOk c) (hT:Tabs N w) (hR:Rules N w):Calls Tryz.prog 267 #[chgV c] w fun e w'=>e=.returned (.int .i64 0)/\Below w.heap.size w w':=by
 obtain⟨k,a,b,id,nm,tx,vk,vn,had⟩:=c
 rcases h.k with hk|hk|hk|hk|hk|hk<;>dsimp only at hk<;>subst hk
 ·exact gcheck1 a b id nm tx vk vn had h hT hR
 ·exact gcheck2 a b id nm tx vk vn had h hT hR
 ·exact gcheck3 a b id nm tx vk vn had h hT hR
 ·exact gcheck4 a b id nm tx vk vn had h hT hR
 ·exact gcheck5 a b id nm tx vk vn had h hT hR
 ·exact gcheck6 a b id nm tx vk vn had h hT hR
end
end Go.Proofs.YtkpoodjhjfmfjaaGreatDoor
namespace Go.Proofs.YtkpoodjhjfmfjaaGreatDoor
open Go.RowKit Go.Lib
abbrev logC (gv ov:Value) (ch co nw:Int):Array Value:=#[.int .i64 1048576,gv,ov,.int .i64 ch,.int .i64 co,.int .i64 nw]
section
variable {w w' : World} {N l : Nat} {gv ov : Value} {ch co nw : Int} {O : List Chg}
theorem gnoneL (h:Blk w l 176 (logC gv ov ch co nw)):Calls Tryz.prog 143 #[.pointer (some ⟨l,0,none⟩)] w fun e w'=>e=.returned (.bool false)/\w=w':=by
 have c0:=h.cell (j:=0) rfl
 clear h
 go_enter Tryz.func143,Tryz.ntmps143
 go_wp2_with fail
 go_ret
 exact⟨rfl,rfl⟩
def AddP (w:World) (l:Nat) (gv ov:Value) (ch co nw:Int) (O:List Chg) (w':World):Prop:=
 ∃ v',ROwn encCg 121 9 0 w' v' O/\Blk w' l 176 (logC gv v' ch co nw)/\Only (fun k=>k=l\/ov.ownBlock=some k) w w'/\∀ k,v'.ownBlock=some k->ov.ownBlock=some k\/w.heap.size<=k
set_option maxRecDepth 100000 in
set_option maxHeartbeats 4000000 in
theorem gadd_nil {c:Chg} (hok:ChgOk c) (hT:Tabs N w) (hR:Rules N w) (h:Blk w l 176 (logC gv (.slice none 0 0) ch co nw)) (h0:0<=nw) (h1:nw+priceC c<=1048576) (h2:0<=co) (h3:co<=100000000) :
  Calls Tryz.prog 219 #[.pointer (some ⟨l,0,none⟩),chgV c] w fun e w'=>e=.returned (.int .i64 0)/\AddP w l gv (.slice none 0 0) ch (co+priceC c) (nw+priceC c) ([c]) w':=by
 have hv:ROwn encCg 121 9 0 w (.slice none 0 0) []:=ROwn.nil _ _
 have hbx:=below1 w (.cells (chgA c) 121)
 have hbk:=Blk.made w 121 (chgA c)
 have hl0:=h.lt
 have hck:=fun(w':World) (hb:Below w.heap.size w w')=>gcheck hok (hT.up hb) (hR.up hb)
 have hpr:=fun(w':World) (hb:Below w.heap.size w w')=>gprice hok (hT.up hb)
 obtain⟨P,hP⟩:∃ P:Nat,P=priceC c:=⟨_,rfl⟩
 rw[<-hP] at h1 hpr ⊢
 have s1:IntKind.i64.wrap (nw+(P:Int))=nw+P:=IntWalk.i64_in _ (by omega)
 have s2:IntKind.i64.wrap (co+(P:Int))=co+P:=IntWalk.i64_in _ (by omega)
 have d1:decide ((1048576:Int)<nw+P)=false:=decide_eq_false (by omega)
 have HPR:=qH hpr
 have H:=qH (h.up hbx)
 have HV:=qH (hv.up hbx)
 have HBX:=qH hbx
 have HBK:=qH hbk
 have HCK:=qH hck
 obtain⟨k,a,b,id,nm,tx,vk,vn,had⟩:=c
 clear h hv hbk hck hok hT hR hpr h0 h1 h2 h3 hP
 have hWl:Below w.heap.size w (w.alloc (.cells (chgA ⟨k,a,b,id,nm,tx,vk,vn,had⟩) 121)):=hbx
 clear hbx hWl
 go_enter Tryz.func219,Tryz.ntmps219
 go_wp2_with fail
 generalize w.alloc (.cells (chgA ⟨k,a,b,id,nm,tx,vk,vn,had⟩) 121)=W at *
 refine(gnoneL H.out).mono ?_
 rintro e w' ⟨rfl,rfl⟩
 have b0:=HBK.out.cell (j:=0) rfl
 have b1:=HBK.out.cell (j:=1) rfl
 have b2:=HBK.out.cell (j:=2) rfl
 have b3:=HBK.out.cell (j:=3) rfl
 have b4:=HBK.out.cell (j:=4) rfl
 have b5:=HBK.out.cell (j:=5) rfl
 have b6:=HBK.out.cell (j:=6) rfl
 have b7:=HBK.out.cell (j:=7) rfl
 have b8:=HBK.out.cell (j:=8) rfl
 go_wp2_with fail
 refine(HCK.out W HBX.out).mono ?_
 rintro e w1 ⟨rfl,hb1⟩
 have H1:=qH (H.out.up hb1)
 have HV1:=qH (HV.out.up hb1)
 have HBX1:=qH (up2 HBX.out hb1)
 have HBK1:=qH (HBK.out.up hb1)
 clear b0 b1 b2 b3 b4 b5 b6 b7 b8 hb1 H HV HBX HBK HCK
 have b0:=HBK1.out.cell (j:=0) rfl
 have b1:=HBK1.out.cell (j:=1) rfl
 have b2:=HBK1.out.cell (j:=2) rfl
 have b3:=HBK1.out.cell (j:=3) rfl
 have b4:=HBK1.out.cell (j:=4) rfl
 have b5:=HBK1.out.cell (j:=5) rfl
 have b6:=HBK1.out.cell (j:=6) rfl
 have b7:=HBK1.out.cell (j:=7) rfl
 have b8:=HBK1.out.cell (j:=8) rfl
 have l2:=H1.out.cell (j:=2) rfl
 go_wp2_with fail
 go_region
 go_wp2_with fail
 refine(HPR.out w1.drew (HBX1.out.drew)).mono ?_
 rintro e w2 ⟨rfl,hb2⟩
 have hb2':Below w1.heap.size w1 w2:=up2 ((Below.refl _ w1).drew) hb2
 have H2:=qH (H1.out.up hb2')
 have HV2:=qH (HV1.out.up hb2')
 have HBX2:=qH (up2 HBX1.out hb2')
 have HBK2:=qH (HBK1.out.up hb2')
 clear b0 b1 b2 b3 b4 b5 b6 b7 b8 hb2 hb2' H1 HV1 HBX1 HBK1 HPR l2
 have l5:=H2.out.cell (j:=5) rfl
 go_wp2_with fail
 obtain⟨VV,hVV⟩:∃ VV:Value,VV=(.slice none 0 0):=⟨_,rfl⟩
 have hVB:∀ k,VV.ownBlock=some k->k≠l/\k<w.heap.size:=by
  intro k hk
  subst hVV
  simp[Value.ownBlock] at hk
  skip
 obtain⟨v',w3,happ,hown3,hb3,ho3,hblk3⟩:=append_elem eltCg (B:=0) (w:=w2.drew) (hVV▸(HV2.out.up ((Below.refl _ w2).drew)):ROwn encCg 121 9 0 w2.drew VV []) (Nat.zero_le _) ⟨k,a,b,id,nm,tx,vk,vn,had⟩ (by simp) (by omega)
 have HP:=qH happ
 have HO3:Hid (Only (fun k=>VV.ownBlock=some k) w2 w3):=qH (((Only.refl _ w2).drew).trans ho3)
 have hon:Only (fun k=>VV.ownBlock=some k) w w3:=(Only.of_below HBX2.out).trans HO3.out
 have HON:=qH hon
 have hk3:Blk w3 l 176 _:=H2.out.only HO3.out (fun hk=>(hVB l hk).1 rfl)
 have HK3:=qH hk3
 have HB3:Hid (∀ k,v'.ownBlock=some k->k≠l/\(VV.ownBlock=some k\/w.heap.size<=k)):=qH (fun k hk=>by
  have hs2:w.heap.size<=w2.heap.size:=HBX2.out.size
  rcases hblk3 with e|⟨g3,e,hg3⟩
  ·rw[e] at hk;exact⟨(hVB k hk).1,.inl hk⟩
  ·rw[e] at hk;cases hk;exact⟨by have:w2.drew.heap.size<=k:=hg3;have:w2.drew.heap.size=w2.heap.size:=rfl;omega,.inr (by have:w2.drew.heap.size<=k:=hg3;have:w2.drew.heap.size=w2.heap.size:=rfl;omega)⟩)
 have C2:∀ x:OnW (fun k=>VV.ownBlock=some k) w2,x.w.cell? ⟨l,2,none⟩=some (.slice none 0 0):=fun x=>(H2.out.only x.on (fun hk=>(hVB l hk).1 rfl)).cell (j:=2) rfl
 have CB:∀ x:OnW (fun k=>VV.ownBlock=some k) w2,Blk x.w w.heap.size 121 _:=fun x=>HBK2.out.only x.on (fun hk=>by have:=(hVB _ hk).2;omega)
 have b0:=fun x=>(CB x).cell (j:=0) rfl
 have b1:=fun x=>(CB x).cell (j:=1) rfl
 have b2:=fun x=>(CB x).cell (j:=2) rfl
 have b3:=fun x=>(CB x).cell (j:=3) rfl
 have b4:=fun x=>(CB x).cell (j:=4) rfl
 have b5:=fun x=>(CB x).cell (j:=5) rfl
 have b6:=fun x=>(CB x).cell (j:=6) rfl
 have b7:=fun x=>(CB x).cell (j:=7) rfl
 have b8:=fun x=>(CB x).cell (j:=8) rfl
 clear CB happ ho3 hon hk3 hb3 hblk3
 refine wp_region_mixO (fun k=>VV.ownBlock=some k) 10 (.one [0,1,2,3,4,5] 6 (.one [] 7 (.done [8,9]))) (by kernel_rfl) (fun c d v a w h=>by cases d<;>exact h) (by kernel_rfl) ?_
 simp only[wpMixT,pk_nil,pk_cons,pushAt_zero,pushAt_succ,List.drop_succ_cons,List.drop_zero]
 repeat (go_big_quiet_step (fail))
 refine wpQuiet_nil ?_
 clear b0 b1 b2 b3 b4 b5 b6 b7 b8
 have HVV:=qH hVV
 subst hVV
 clear HVV
 go_wp2_with fail
 refine thenQ_normal ⟨⟨⟨_,(Only.refl _ w2).drew.alloc _⟩,rfl⟩,?_⟩
 refine wpQuiet_nil ?_
 refine wpList_app_run rfl _ _ _ rfl rfl rfl HP.out ?_
 go_wp2_with fail
 refine thenQ_normal ⟨⟨⟨_,HO3.out⟩,rfl⟩,?_⟩
 repeat (go_big_quiet_step (fail))
 refine wpQuiet_nil ?_
 clear C2
 have HOW:=qH hown3
 obtain⟨A',cap',hv'q,_,_,_⟩:=hown3.shape eltCg
 have hll:([]++[(⟨k,a,b,id,nm,tx,vk,vn,had⟩:Chg)]).length=1:=by simp
 rw[hll] at hv'q
 subst hv'q
 clear hown3 hll
 have f2:=HK3.out.fz 2
 have k2:=HK3.out.cell (j:=2) rfl
 have hsw:w.heap.size<=w3.heap.size:=HON.out.size
 have hk4:=HK3.out.set (j:=2) (by simp) (.slice A' 1 cap')
 have HW4:=qH (HOW.out.kept (w':=w3.setCell ⟨l,2,none⟩ (.slice A' 1 cap')) (fun g hg=>Below.heap_setCell _ _ _ _ (HB3.out g hg).1))
 have HO4:=qH ((HON.out.mono (T:=fun k=>k=l\/(Value.slice none 0 0).ownBlock=some k) (fun k hk=>.inr hk)).setCell (p:=⟨l,2,none⟩) (.inl rfl) (.slice A' 1 cap'))
 have HK4:=qH hk4
 clear hk4
 go_wp2_with fail
 generalize w3.setCell ⟨l,2,none⟩ (.slice A' 1 cap')=w4 at *
 have m4:=HK4.out.cell (j:=4) rfl
 have m5:=HK4.out.cell (j:=5) rfl
 have f4:=HK4.out.fz 4
 have f5:=HK4.out.fz 5
 go_region
 go_wp2_with fail
 go_ret
 have hk6:=(HK4.out.set (j:=4) (by simp) (.int .i64 (co+P))).set (j:=5) (by simp) (.int .i64 (nw+P))
 refine⟨rfl,_,?_,hk6,((HO4.out.setCell (p:=⟨l,4,none⟩) (.inl rfl) (.int .i64 (co+P))).setCell (p:=⟨l,5,none⟩) (.inl rfl) (.int .i64 (nw+P))).drew,fun k hk=>(HB3.out k hk).2⟩
 exact HW4.out.kept (fun g hg=>by
  have h1:=(HB3.out g hg).1
  exact(Below.heap_setCell (w4.setCell ⟨l,4,none⟩ (.int .i64 (co+P))) ⟨l,5,none⟩ (.int .i64 (nw+P)) g h1).trans (Below.heap_setCell w4 ⟨l,4,none⟩ (.int .i64 (co+P)) g h1))
set_option maxRecDepth 100000 in
set_option maxHeartbeats 4000000 in
theorem gadd_n1 {c:Chg} {x:Chg} {K:Nat} (hv:ROwn encCg 121 9 0 w ov O) (hx:O[K]?=some x) (hK:O.length=K+1) (hOl:O.length<=1100000) (hsep:∀ k,ov.ownBlock=some k->k≠l) (hc:c.k≠1) (hok:ChgOk c) (hT:Tabs N w) (hR:Rules N w) (h:Blk w l 176 (logC gv (ov) ch co nw)) (h0:0<=nw) (h1:nw+priceC c<=1048576) (h2:0<=co) (h3:co<=100000000) :
  Calls Tryz.prog 219 #[.pointer (some ⟨l,0,none⟩),chgV c] w fun e w'=>e=.returned (.int .i64 0)/\AddP w l gv (ov) ch (co+priceC c) (nw+priceC c) (O++[c]) w':=by
 have hwf:∀ k,ov.ownBlock=some k->k<w.heap.size:=fun k hk=>hv.lt hk
 obtain⟨g,cap,rfl,hcap1,hcap2,hgB,hgl,hfz,hat⟩:=hv.lies eltCg (by omega)
 have hgl2:g≠l:=hsep g rfl
 have hlk:w.cell? ⟨g,K*9,none⟩=some (.int .i64 x.k):=hat K x 0 _ hx rfl
 have hlb:w.cell? ⟨g,K*9+2,none⟩=some (.int .i64 x.b):=hat K x 2 _ hx rfl
 clear hat
 have hbx:=below1 w (.cells (chgA c) 121)
 have hbk:=Blk.made w 121 (chgA c)
 have hl0:=h.lt
 have hck:=fun(w':World) (hb:Below w.heap.size w w')=>gcheck hok (hT.up hb) (hR.up hb)
 have hpr:=fun(w':World) (hb:Below w.heap.size w w')=>gprice hok (hT.up hb)
 obtain⟨P,hP⟩:∃ P:Nat,P=priceC c:=⟨_,rfl⟩
 rw[<-hP] at h1 hpr ⊢
 have s1:IntKind.i64.wrap (nw+(P:Int))=nw+P:=IntWalk.i64_in _ (by omega)
 have s2:IntKind.i64.wrap (co+(P:Int))=co+P:=IntWalk.i64_in _ (by omega)
 have d1:decide ((1048576:Int)<nw+P)=false:=decide_eq_false (by omega)
 have HPR:=qH hpr
 have s3:IntKind.i64.wrap ((O.length:Int) - 1)=(K:Int):=by rw[IntWalk.i64_in _ (by omega)];omega
 have hKl:K<O.length:=by omega
 have d0:decide ((0:Int)<=(K:Int))=true:=decide_eq_true (by omega)
 have H:=qH (h.up hbx)
 have HV:=qH (hv.up hbx)
 have HBX:=qH hbx
 have HBK:=qH hbk
 have HCK:=qH hck
 obtain⟨k,a,b,id,nm,tx,vk,vn,had⟩:=c
 dsimp only at hc
 have e1:((k:Int) == 1)=false:=by simpa using hc
 have e2:(k=1)=False:=eq_false hc
 clear h hv hbk hck hok hT hR hpr h0 h1 h2 h3 hP hwf hcap1 hgB
 clear hc
 have HLK:=qH (⟨hlk,hlb,hx,hK,hfz,hcap2,hOl,hgl⟩:_/\_/\_/\_/\_/\_/\_/\_)
 clear hlk hlb hx hK hfz hcap2 hOl hsep
 have hWl:Below w.heap.size w (w.alloc (.cells (chgA ⟨k,a,b,id,nm,tx,vk,vn,had⟩) 121)):=hbx
 clear hbx hWl
 go_enter Tryz.func219,Tryz.ntmps219
 go_wp2_with fail
 generalize w.alloc (.cells (chgA ⟨k,a,b,id,nm,tx,vk,vn,had⟩) 121)=W at *
 refine(gnoneL H.out).mono ?_
 rintro e w' ⟨rfl,rfl⟩
 have b0:=HBK.out.cell (j:=0) rfl
 have b1:=HBK.out.cell (j:=1) rfl
 have b2:=HBK.out.cell (j:=2) rfl
 have b3:=HBK.out.cell (j:=3) rfl
 have b4:=HBK.out.cell (j:=4) rfl
 have b5:=HBK.out.cell (j:=5) rfl
 have b6:=HBK.out.cell (j:=6) rfl
 have b7:=HBK.out.cell (j:=7) rfl
 have b8:=HBK.out.cell (j:=8) rfl
 go_wp2_with fail
 refine(HCK.out W HBX.out).mono ?_
 rintro e w1 ⟨rfl,hb1⟩
 have H1:=qH (H.out.up hb1)
 have HV1:=qH (HV.out.up hb1)
 have HBX1:=qH (up2 HBX.out hb1)
 have HBK1:=qH (HBK.out.up hb1)
 clear b0 b1 b2 b3 b4 b5 b6 b7 b8 hb1 H HV HBX HBK HCK
 have b0:=HBK1.out.cell (j:=0) rfl
 have b1:=HBK1.out.cell (j:=1) rfl
 have b2:=HBK1.out.cell (j:=2) rfl
 have b3:=HBK1.out.cell (j:=3) rfl
 have b4:=HBK1.out.cell (j:=4) rfl
 have b5:=HBK1.out.cell (j:=5) rfl
 have b6:=HBK1.out.cell (j:=6) rfl
 have b7:=HBK1.out.cell (j:=7) rfl
 have b8:=HBK1.out.cell (j:=8) rfl
 have l2:=H1.out.cell (j:=2) rfl
 have hlk:w1.cell? ⟨g,K*9,none⟩=_:=(World.cell?_of_block (w:=w) (a:=⟨g,K*9,none⟩) (HBX1.out.block g hgl)).trans HLK.out.1
 have hlb:w1.cell? ⟨g,K*9+2,none⟩=_:=(World.cell?_of_block (w:=w) (a:=⟨g,K*9+2,none⟩) (HBX1.out.block g hgl)).trans HLK.out.2.1
 go_wp2_with fail
 go_region
 go_wp2_with fail
 refine(HPR.out w1.drew (HBX1.out.drew)).mono ?_
 rintro e w2 ⟨rfl,hb2⟩
 have hb2':Below w1.heap.size w1 w2:=up2 ((Below.refl _ w1).drew) hb2
 have H2:=qH (H1.out.up hb2')
 have HV2:=qH (HV1.out.up hb2')
 have HBX2:=qH (up2 HBX1.out hb2')
 have HBK2:=qH (HBK1.out.up hb2')
 clear b0 b1 b2 b3 b4 b5 b6 b7 b8 hb2 hb2' H1 HV1 HBX1 HBK1 HPR l2 hlk hlb
 have l5:=H2.out.cell (j:=5) rfl
 go_wp2_with fail
 obtain⟨VV,hVV⟩:∃ VV:Value,VV=(.slice (some ⟨g,0,none⟩) O.length cap):=⟨_,rfl⟩
 have hVB:∀ k,VV.ownBlock=some k->k≠l/\k<w.heap.size:=by
  intro k hk
  subst hVV
  simp[Value.ownBlock] at hk
  exact hk▸⟨hgl2,hgl⟩
 obtain⟨v',w3,happ,hown3,hb3,ho3,hblk3⟩:=append_elem eltCg (B:=0) (w:=w2.drew) (hVV▸(HV2.out.up ((Below.refl _ w2).drew)):ROwn encCg 121 9 0 w2.drew VV O) (Nat.zero_le _) ⟨k,a,b,id,nm,tx,vk,vn,had⟩ (by have:=HLK.out;omega) (by omega)
 have HP:=qH happ
 have HO3:Hid (Only (fun k=>VV.ownBlock=some k) w2 w3):=qH (((Only.refl _ w2).drew).trans ho3)
 have hon:Only (fun k=>VV.ownBlock=some k) w w3:=(Only.of_below HBX2.out).trans HO3.out
 have HON:=qH hon
 have hk3:Blk w3 l 176 _:=H2.out.only HO3.out (fun hk=>(hVB l hk).1 rfl)
 have HK3:=qH hk3
 have HB3:Hid (∀ k,v'.ownBlock=some k->k≠l/\(VV.ownBlock=some k\/w.heap.size<=k)):=qH (fun k hk=>by
  have hs2:w.heap.size<=w2.heap.size:=HBX2.out.size
  rcases hblk3 with e|⟨g3,e,hg3⟩
  ·rw[e] at hk;exact⟨(hVB k hk).1,.inl hk⟩
  ·rw[e] at hk;cases hk;exact⟨by have:w2.drew.heap.size<=k:=hg3;have:w2.drew.heap.size=w2.heap.size:=rfl;omega,.inr (by have:w2.drew.heap.size<=k:=hg3;have:w2.drew.heap.size=w2.heap.size:=rfl;omega)⟩)
 have C2:∀ x:OnW (fun k=>VV.ownBlock=some k) w2,x.w.cell? ⟨l,2,none⟩=some (.slice (some ⟨g,0,none⟩) O.length cap):=fun x=>(H2.out.only x.on (fun hk=>(hVB l hk).1 rfl)).cell (j:=2) rfl
 have CB:∀ x:OnW (fun k=>VV.ownBlock=some k) w2,Blk x.w w.heap.size 121 _:=fun x=>HBK2.out.only x.on (fun hk=>by have:=(hVB _ hk).2;omega)
 have b0:=fun x=>(CB x).cell (j:=0) rfl
 have b1:=fun x=>(CB x).cell (j:=1) rfl
 have b2:=fun x=>(CB x).cell (j:=2) rfl
 have b3:=fun x=>(CB x).cell (j:=3) rfl
 have b4:=fun x=>(CB x).cell (j:=4) rfl
 have b5:=fun x=>(CB x).cell (j:=5) rfl
 have b6:=fun x=>(CB x).cell (j:=6) rfl
 have b7:=fun x=>(CB x).cell (j:=7) rfl
 have b8:=fun x=>(CB x).cell (j:=8) rfl
 clear CB happ ho3 hon hk3 hb3 hblk3
 refine wp_region_mixO (fun k=>VV.ownBlock=some k) 10 (.one [0,1,2,3,4,5] 6 (.one [] 7 (.done [8,9]))) (by kernel_rfl) (fun c d v a w h=>by cases d<;>exact h) (by kernel_rfl) ?_
 simp only[wpMixT,pk_nil,pk_cons,pushAt_zero,pushAt_succ,List.drop_succ_cons,List.drop_zero]
 repeat (go_big_quiet_step (fail))
 refine wpQuiet_nil ?_
 clear b0 b1 b2 b3 b4 b5 b6 b7 b8
 have HVV:=qH hVV
 subst hVV
 clear HVV
 go_wp2_with fail
 refine thenQ_normal ⟨⟨⟨_,(Only.refl _ w2).drew.alloc _⟩,rfl⟩,?_⟩
 refine wpQuiet_nil ?_
 refine wpList_app_run rfl _ _ _ rfl rfl rfl HP.out ?_
 go_wp2_with fail
 refine thenQ_normal ⟨⟨⟨_,HO3.out⟩,rfl⟩,?_⟩
 repeat (go_big_quiet_step (fail))
 refine wpQuiet_nil ?_
 clear C2
 have HOW:=qH hown3
 obtain⟨A',cap',hv'q,_,_,_⟩:=hown3.shape eltCg
 have hll:(O++[(⟨k,a,b,id,nm,tx,vk,vn,had⟩:Chg)]).length=(O.length+1):=by simp
 rw[hll] at hv'q
 subst hv'q
 clear hown3 hll
 have f2:=HK3.out.fz 2
 have k2:=HK3.out.cell (j:=2) rfl
 have hsw:w.heap.size<=w3.heap.size:=HON.out.size
 have hk4:=HK3.out.set (j:=2) (by simp) (.slice A' (O.length+1) cap')
 have HW4:=qH (HOW.out.kept (w':=w3.setCell ⟨l,2,none⟩ (.slice A' (O.length+1) cap')) (fun g hg=>Below.heap_setCell _ _ _ _ (HB3.out g hg).1))
 have HO4:=qH ((HON.out.mono (T:=fun k=>k=l\/(Value.slice (some ⟨g,0,none⟩) O.length cap).ownBlock=some k) (fun k hk=>.inr hk)).setCell (p:=⟨l,2,none⟩) (.inl rfl) (.slice A' (O.length+1) cap'))
 have HK4:=qH hk4
 clear hk4
 go_wp2_with fail
 generalize w3.setCell ⟨l,2,none⟩ (.slice A' (O.length+1) cap')=w4 at *
 have m4:=HK4.out.cell (j:=4) rfl
 have m5:=HK4.out.cell (j:=5) rfl
 have f4:=HK4.out.fz 4
 have f5:=HK4.out.fz 5
 go_region
 go_wp2_with fail
 go_ret
 have hk6:=(HK4.out.set (j:=4) (by simp) (.int .i64 (co+P))).set (j:=5) (by simp) (.int .i64 (nw+P))
 refine⟨rfl,_,?_,hk6,((HO4.out.setCell (p:=⟨l,4,none⟩) (.inl rfl) (.int .i64 (co+P))).setCell (p:=⟨l,5,none⟩) (.inl rfl) (.int .i64 (nw+P))).drew,fun k hk=>(HB3.out k hk).2⟩
 exact HW4.out.kept (fun g hg=>by
  have h1:=(HB3.out g hg).1
  exact(Below.heap_setCell (w4.setCell ⟨l,4,none⟩ (.int .i64 (co+P))) ⟨l,5,none⟩ (.int .i64 (nw+P)) g h1).trans (Below.heap_setCell w4 ⟨l,4,none⟩ (.int .i64 (co+P)) g h1))
set_option maxRecDepth 100000 in
set_option maxHeartbeats 4000000 in
theorem gadd_n2 {c:Chg} {x:Chg} {K:Nat} (hv:ROwn encCg 121 9 0 w ov O) (hx:O[K]?=some x) (hK:O.length=K+1) (hOl:O.length<=1100000) (hsep:∀ k,ov.ownBlock=some k->k≠l) (hc:c.k=1/\x.k≠1) (hok:ChgOk c) (hT:Tabs N w) (hR:Rules N w) (h:Blk w l 176 (logC gv (ov) ch co nw)) (h0:0<=nw) (h1:nw+priceC c<=1048576) (h2:0<=co) (h3:co<=100000000) :
  Calls Tryz.prog 219 #[.pointer (some ⟨l,0,none⟩),chgV c] w fun e w'=>e=.returned (.int .i64 0)/\AddP w l gv (ov) ch (co+priceC c) (nw+priceC c) (O++[c]) w':=by
 have hwf:∀ k,ov.ownBlock=some k->k<w.heap.size:=fun k hk=>hv.lt hk
 obtain⟨g,cap,rfl,hcap1,hcap2,hgB,hgl,hfz,hat⟩:=hv.lies eltCg (by omega)
 have hgl2:g≠l:=hsep g rfl
 have hlk:w.cell? ⟨g,K*9,none⟩=some (.int .i64 x.k):=hat K x 0 _ hx rfl
 have hlb:w.cell? ⟨g,K*9+2,none⟩=some (.int .i64 x.b):=hat K x 2 _ hx rfl
 clear hat
 have hbx:=below1 w (.cells (chgA c) 121)
 have hbk:=Blk.made w 121 (chgA c)
 have hl0:=h.lt
 have hck:=fun(w':World) (hb:Below w.heap.size w w')=>gcheck hok (hT.up hb) (hR.up hb)
 have hpr:=fun(w':World) (hb:Below w.heap.size w w')=>gprice hok (hT.up hb)
 obtain⟨P,hP⟩:∃ P:Nat,P=priceC c:=⟨_,rfl⟩
 rw[<-hP] at h1 hpr ⊢
 have s1:IntKind.i64.wrap (nw+(P:Int))=nw+P:=IntWalk.i64_in _ (by omega)
 have s2:IntKind.i64.wrap (co+(P:Int))=co+P:=IntWalk.i64_in _ (by omega)
 have d1:decide ((1048576:Int)<nw+P)=false:=decide_eq_false (by omega)
 have HPR:=qH hpr
 have s3:IntKind.i64.wrap ((O.length:Int) - 1)=(K:Int):=by rw[IntWalk.i64_in _ (by omega)];omega
 have hKl:K<O.length:=by omega
 have d0:decide ((0:Int)<=(K:Int))=true:=decide_eq_true (by omega)
 have H:=qH (h.up hbx)
 have HV:=qH (hv.up hbx)
 have HBX:=qH hbx
 have HBK:=qH hbk
 have HCK:=qH hck
 obtain⟨k,a,b,id,nm,tx,vk,vn,had⟩:=c
 obtain⟨hck1,hc⟩:=hc
 dsimp only at hck1
 subst hck1
 have e1:((x.k:Int) == 1)=false:=by simpa using hc
 have e2:(x.k=1)=False:=eq_false hc
 clear h hv hbk hck hok hT hR hpr h0 h1 h2 h3 hP hwf hcap1 hgB
 clear hc
 have HLK:=qH (⟨hlk,hlb,hx,hK,hfz,hcap2,hOl,hgl⟩:_/\_/\_/\_/\_/\_/\_/\_)
 clear hlk hlb hx hK hfz hcap2 hOl hsep
 have hWl:Below w.heap.size w (w.alloc (.cells (chgA ⟨1,a,b,id,nm,tx,vk,vn,had⟩) 121)):=hbx
 clear hbx hWl
 go_enter Tryz.func219,Tryz.ntmps219
 go_wp2_with fail
 generalize w.alloc (.cells (chgA ⟨1,a,b,id,nm,tx,vk,vn,had⟩) 121)=W at *
 refine(gnoneL H.out).mono ?_
 rintro e w' ⟨rfl,rfl⟩
 have b0:=HBK.out.cell (j:=0) rfl
 have b1:=HBK.out.cell (j:=1) rfl
 have b2:=HBK.out.cell (j:=2) rfl
 have b3:=HBK.out.cell (j:=3) rfl
 have b4:=HBK.out.cell (j:=4) rfl
 have b5:=HBK.out.cell (j:=5) rfl
 have b6:=HBK.out.cell (j:=6) rfl
 have b7:=HBK.out.cell (j:=7) rfl
 have b8:=HBK.out.cell (j:=8) rfl
 go_wp2_with fail
 refine(HCK.out W HBX.out).mono ?_
 rintro e w1 ⟨rfl,hb1⟩
 have H1:=qH (H.out.up hb1)
 have HV1:=qH (HV.out.up hb1)
 have HBX1:=qH (up2 HBX.out hb1)
 have HBK1:=qH (HBK.out.up hb1)
 clear b0 b1 b2 b3 b4 b5 b6 b7 b8 hb1 H HV HBX HBK HCK
 have b0:=HBK1.out.cell (j:=0) rfl
 have b1:=HBK1.out.cell (j:=1) rfl
 have b2:=HBK1.out.cell (j:=2) rfl
 have b3:=HBK1.out.cell (j:=3) rfl
 have b4:=HBK1.out.cell (j:=4) rfl
 have b5:=HBK1.out.cell (j:=5) rfl
 have b6:=HBK1.out.cell (j:=6) rfl
 have b7:=HBK1.out.cell (j:=7) rfl
 have b8:=HBK1.out.cell (j:=8) rfl
 have l2:=H1.out.cell (j:=2) rfl
 have hlk:w1.cell? ⟨g,K*9,none⟩=_:=(World.cell?_of_block (w:=w) (a:=⟨g,K*9,none⟩) (HBX1.out.block g hgl)).trans HLK.out.1
 have hlb:w1.cell? ⟨g,K*9+2,none⟩=_:=(World.cell?_of_block (w:=w) (a:=⟨g,K*9+2,none⟩) (HBX1.out.block g hgl)).trans HLK.out.2.1
 go_wp2_with fail
 go_region
 go_wp2_with fail
 refine(HPR.out w1.drew (HBX1.out.drew)).mono ?_
 rintro e w2 ⟨rfl,hb2⟩
 have hb2':Below w1.heap.size w1 w2:=up2 ((Below.refl _ w1).drew) hb2
 have H2:=qH (H1.out.up hb2')
 have HV2:=qH (HV1.out.up hb2')
 have HBX2:=qH (up2 HBX1.out hb2')
 have HBK2:=qH (HBK1.out.up hb2')
 clear b0 b1 b2 b3 b4 b5 b6 b7 b8 hb2 hb2' H1 HV1 HBX1 HBK1 HPR l2 hlk hlb
 have l5:=H2.out.cell (j:=5) rfl
 go_wp2_with fail
 obtain⟨VV,hVV⟩:∃ VV:Value,VV=(.slice (some ⟨g,0,none⟩) O.length cap):=⟨_,rfl⟩
 have hVB:∀ k,VV.ownBlock=some k->k≠l/\k<w.heap.size:=by
  intro k hk
  subst hVV
  simp[Value.ownBlock] at hk
  exact hk▸⟨hgl2,hgl⟩
 obtain⟨v',w3,happ,hown3,hb3,ho3,hblk3⟩:=append_elem eltCg (B:=0) (w:=w2.drew) (hVV▸(HV2.out.up ((Below.refl _ w2).drew)):ROwn encCg 121 9 0 w2.drew VV O) (Nat.zero_le _) ⟨1,a,b,id,nm,tx,vk,vn,had⟩ (by have:=HLK.out;omega) (by omega)
 have HP:=qH happ
 have HO3:Hid (Only (fun k=>VV.ownBlock=some k) w2 w3):=qH (((Only.refl _ w2).drew).trans ho3)
 have hon:Only (fun k=>VV.ownBlock=some k) w w3:=(Only.of_below HBX2.out).trans HO3.out
 have HON:=qH hon
 have hk3:Blk w3 l 176 _:=H2.out.only HO3.out (fun hk=>(hVB l hk).1 rfl)
 have HK3:=qH hk3
 have HB3:Hid (∀ k,v'.ownBlock=some k->k≠l/\(VV.ownBlock=some k\/w.heap.size<=k)):=qH (fun k hk=>by
  have hs2:w.heap.size<=w2.heap.size:=HBX2.out.size
  rcases hblk3 with e|⟨g3,e,hg3⟩
  ·rw[e] at hk;exact⟨(hVB k hk).1,.inl hk⟩
  ·rw[e] at hk;cases hk;exact⟨by have:w2.drew.heap.size<=k:=hg3;have:w2.drew.heap.size=w2.heap.size:=rfl;omega,.inr (by have:w2.drew.heap.size<=k:=hg3;have:w2.drew.heap.size=w2.heap.size:=rfl;omega)⟩)
 have C2:∀ x:OnW (fun k=>VV.ownBlock=some k) w2,x.w.cell? ⟨l,2,none⟩=some (.slice (some ⟨g,0,none⟩) O.length cap):=fun x=>(H2.out.only x.on (fun hk=>(hVB l hk).1 rfl)).cell (j:=2) rfl
 have CB:∀ x:OnW (fun k=>VV.ownBlock=some k) w2,Blk x.w w.heap.size 121 _:=fun x=>HBK2.out.only x.on (fun hk=>by have:=(hVB _ hk).2;omega)
 have b0:=fun x=>(CB x).cell (j:=0) rfl
 have b1:=fun x=>(CB x).cell (j:=1) rfl
 have b2:=fun x=>(CB x).cell (j:=2) rfl
 have b3:=fun x=>(CB x).cell (j:=3) rfl
 have b4:=fun x=>(CB x).cell (j:=4) rfl
 have b5:=fun x=>(CB x).cell (j:=5) rfl
 have b6:=fun x=>(CB x).cell (j:=6) rfl
 have b7:=fun x=>(CB x).cell (j:=7) rfl
 have b8:=fun x=>(CB x).cell (j:=8) rfl
 clear CB happ ho3 hon hk3 hb3 hblk3
 refine wp_region_mixO (fun k=>VV.ownBlock=some k) 10 (.one [0,1,2,3,4,5] 6 (.one [] 7 (.done [8,9]))) (by kernel_rfl) (fun c d v a w h=>by cases d<;>exact h) (by kernel_rfl) ?_
 simp only[wpMixT,pk_nil,pk_cons,pushAt_zero,pushAt_succ,List.drop_succ_cons,List.drop_zero]
 repeat (go_big_quiet_step (fail))
 refine wpQuiet_nil ?_
 clear b0 b1 b2 b3 b4 b5 b6 b7 b8
 have HVV:=qH hVV
 subst hVV
 clear HVV
 go_wp2_with fail
 refine thenQ_normal ⟨⟨⟨_,(Only.refl _ w2).drew.alloc _⟩,rfl⟩,?_⟩
 refine wpQuiet_nil ?_
 refine wpList_app_run rfl _ _ _ rfl rfl rfl HP.out ?_
 go_wp2_with fail
 refine thenQ_normal ⟨⟨⟨_,HO3.out⟩,rfl⟩,?_⟩
 repeat (go_big_quiet_step (fail))
 refine wpQuiet_nil ?_
 clear C2
 have HOW:=qH hown3
 obtain⟨A',cap',hv'q,_,_,_⟩:=hown3.shape eltCg
 have hll:(O++[(⟨1,a,b,id,nm,tx,vk,vn,had⟩:Chg)]).length=(O.length+1):=by simp
 rw[hll] at hv'q
 subst hv'q
 clear hown3 hll
 have f2:=HK3.out.fz 2
 have k2:=HK3.out.cell (j:=2) rfl
 have hsw:w.heap.size<=w3.heap.size:=HON.out.size
 have hk4:=HK3.out.set (j:=2) (by simp) (.slice A' (O.length+1) cap')
 have HW4:=qH (HOW.out.kept (w':=w3.setCell ⟨l,2,none⟩ (.slice A' (O.length+1) cap')) (fun g hg=>Below.heap_setCell _ _ _ _ (HB3.out g hg).1))
 have HO4:=qH ((HON.out.mono (T:=fun k=>k=l\/(Value.slice (some ⟨g,0,none⟩) O.length cap).ownBlock=some k) (fun k hk=>.inr hk)).setCell (p:=⟨l,2,none⟩) (.inl rfl) (.slice A' (O.length+1) cap'))
 have HK4:=qH hk4
 clear hk4
 go_wp2_with fail
 generalize w3.setCell ⟨l,2,none⟩ (.slice A' (O.length+1) cap')=w4 at *
 have m4:=HK4.out.cell (j:=4) rfl
 have m5:=HK4.out.cell (j:=5) rfl
 have f4:=HK4.out.fz 4
 have f5:=HK4.out.fz 5
 go_region
 go_wp2_with fail
 go_ret
 have hk6:=(HK4.out.set (j:=4) (by simp) (.int .i64 (co+P))).set (j:=5) (by simp) (.int .i64 (nw+P))
 refine⟨rfl,_,?_,hk6,((HO4.out.setCell (p:=⟨l,4,none⟩) (.inl rfl) (.int .i64 (co+P))).setCell (p:=⟨l,5,none⟩) (.inl rfl) (.int .i64 (nw+P))).drew,fun k hk=>(HB3.out k hk).2⟩
 exact HW4.out.kept (fun g hg=>by
  have h1:=(HB3.out g hg).1
  exact(Below.heap_setCell (w4.setCell ⟨l,4,none⟩ (.int .i64 (co+P))) ⟨l,5,none⟩ (.int .i64 (nw+P)) g h1).trans (Below.heap_setCell w4 ⟨l,4,none⟩ (.int .i64 (co+P)) g h1))
set_option maxRecDepth 100000 in
set_option maxHeartbeats 4000000 in
theorem gadd_n3 {c:Chg} {x:Chg} {K:Nat} (hv:ROwn encCg 121 9 0 w ov O) (hx:O[K]?=some x) (hK:O.length=K+1) (hOl:O.length<=1100000) (hsep:∀ k,ov.ownBlock=some k->k≠l) (hc:c.k=1/\x.k=1/\x.b≠c.a) (hok:ChgOk c) (hT:Tabs N w) (hR:Rules N w) (h:Blk w l 176 (logC gv (ov) ch co nw)) (h0:0<=nw) (h1:nw+priceC c<=1048576) (h2:0<=co) (h3:co<=100000000) :
  Calls Tryz.prog 219 #[.pointer (some ⟨l,0,none⟩),chgV c] w fun e w'=>e=.returned (.int .i64 0)/\AddP w l gv (ov) ch (co+priceC c) (nw+priceC c) (O++[c]) w':=by
 have hwf:∀ k,ov.ownBlock=some k->k<w.heap.size:=fun k hk=>hv.lt hk
 obtain⟨g,cap,rfl,hcap1,hcap2,hgB,hgl,hfz,hat⟩:=hv.lies eltCg (by omega)
 have hgl2:g≠l:=hsep g rfl
 have hlk:w.cell? ⟨g,K*9,none⟩=some (.int .i64 x.k):=hat K x 0 _ hx rfl
 have hlb:w.cell? ⟨g,K*9+2,none⟩=some (.int .i64 x.b):=hat K x 2 _ hx rfl
 clear hat
 have hbx:=below1 w (.cells (chgA c) 121)
 have hbk:=Blk.made w 121 (chgA c)
 have hl0:=h.lt
 have hck:=fun(w':World) (hb:Below w.heap.size w w')=>gcheck hok (hT.up hb) (hR.up hb)
 have hpr:=fun(w':World) (hb:Below w.heap.size w w')=>gprice hok (hT.up hb)
 obtain⟨P,hP⟩:∃ P:Nat,P=priceC c:=⟨_,rfl⟩
 rw[<-hP] at h1 hpr ⊢
 have s1:IntKind.i64.wrap (nw+(P:Int))=nw+P:=IntWalk.i64_in _ (by omega)
 have s2:IntKind.i64.wrap (co+(P:Int))=co+P:=IntWalk.i64_in _ (by omega)
 have d1:decide ((1048576:Int)<nw+P)=false:=decide_eq_false (by omega)
 have HPR:=qH hpr
 have s3:IntKind.i64.wrap ((O.length:Int) - 1)=(K:Int):=by rw[IntWalk.i64_in _ (by omega)];omega
 have hKl:K<O.length:=by omega
 have d0:decide ((0:Int)<=(K:Int))=true:=decide_eq_true (by omega)
 have H:=qH (h.up hbx)
 have HV:=qH (hv.up hbx)
 have HBX:=qH hbx
 have HBK:=qH hbk
 have HCK:=qH hck
 obtain⟨k,a,b,id,nm,tx,vk,vn,had⟩:=c
 obtain⟨hck1,hc⟩:=hc
 dsimp only at hck1
 subst hck1
 obtain⟨hcx,hc⟩:=hc
 dsimp only at hc
 rw[hcx] at hlk
 have e1:((x.b:Int) == a)=false:=by simpa using hc
 have e2:(x.b=a)=False:=eq_false hc
 clear h hv hbk hck hok hT hR hpr h0 h1 h2 h3 hP hwf hcap1 hgB
 clear hc hcx
 have HLK:=qH (⟨hlk,hlb,hx,hK,hfz,hcap2,hOl,hgl⟩:_/\_/\_/\_/\_/\_/\_/\_)
 clear hlk hlb hx hK hfz hcap2 hOl hsep
 have hWl:Below w.heap.size w (w.alloc (.cells (chgA ⟨1,a,b,id,nm,tx,vk,vn,had⟩) 121)):=hbx
 clear hbx hWl
 go_enter Tryz.func219,Tryz.ntmps219
 go_wp2_with fail
 generalize w.alloc (.cells (chgA ⟨1,a,b,id,nm,tx,vk,vn,had⟩) 121)=W at *
 refine(gnoneL H.out).mono ?_
 rintro e w' ⟨rfl,rfl⟩
 have b0:=HBK.out.cell (j:=0) rfl
 have b1:=HBK.out.cell (j:=1) rfl
 have b2:=HBK.out.cell (j:=2) rfl
 have b3:=HBK.out.cell (j:=3) rfl
 have b4:=HBK.out.cell (j:=4) rfl
 have b5:=HBK.out.cell (j:=5) rfl
 have b6:=HBK.out.cell (j:=6) rfl
 have b7:=HBK.out.cell (j:=7) rfl
 have b8:=HBK.out.cell (j:=8) rfl
 go_wp2_with fail
 refine(HCK.out W HBX.out).mono ?_
 rintro e w1 ⟨rfl,hb1⟩
 have H1:=qH (H.out.up hb1)
 have HV1:=qH (HV.out.up hb1)
 have HBX1:=qH (up2 HBX.out hb1)
 have HBK1:=qH (HBK.out.up hb1)
 clear b0 b1 b2 b3 b4 b5 b6 b7 b8 hb1 H HV HBX HBK HCK
 have b0:=HBK1.out.cell (j:=0) rfl
 have b1:=HBK1.out.cell (j:=1) rfl
 have b2:=HBK1.out.cell (j:=2) rfl
 have b3:=HBK1.out.cell (j:=3) rfl
 have b4:=HBK1.out.cell (j:=4) rfl
 have b5:=HBK1.out.cell (j:=5) rfl
 have b6:=HBK1.out.cell (j:=6) rfl
 have b7:=HBK1.out.cell (j:=7) rfl
 have b8:=HBK1.out.cell (j:=8) rfl
 have l2:=H1.out.cell (j:=2) rfl
 have hlk:w1.cell? ⟨g,K*9,none⟩=_:=(World.cell?_of_block (w:=w) (a:=⟨g,K*9,none⟩) (HBX1.out.block g hgl)).trans HLK.out.1
 have hlb:w1.cell? ⟨g,K*9+2,none⟩=_:=(World.cell?_of_block (w:=w) (a:=⟨g,K*9+2,none⟩) (HBX1.out.block g hgl)).trans HLK.out.2.1
 go_wp2_with fail
 go_region
 go_wp2_with fail
 refine(HPR.out w1.drew (HBX1.out.drew)).mono ?_
 rintro e w2 ⟨rfl,hb2⟩
 have hb2':Below w1.heap.size w1 w2:=up2 ((Below.refl _ w1).drew) hb2
 have H2:=qH (H1.out.up hb2')
 have HV2:=qH (HV1.out.up hb2')
 have HBX2:=qH (up2 HBX1.out hb2')
 have HBK2:=qH (HBK1.out.up hb2')
 clear b0 b1 b2 b3 b4 b5 b6 b7 b8 hb2 hb2' H1 HV1 HBX1 HBK1 HPR l2 hlk hlb
 have l5:=H2.out.cell (j:=5) rfl
 go_wp2_with fail
 obtain⟨VV,hVV⟩:∃ VV:Value,VV=(.slice (some ⟨g,0,none⟩) O.length cap):=⟨_,rfl⟩
 have hVB:∀ k,VV.ownBlock=some k->k≠l/\k<w.heap.size:=by
  intro k hk
  subst hVV
  simp[Value.ownBlock] at hk
  exact hk▸⟨hgl2,hgl⟩
 obtain⟨v',w3,happ,hown3,hb3,ho3,hblk3⟩:=append_elem eltCg (B:=0) (w:=w2.drew) (hVV▸(HV2.out.up ((Below.refl _ w2).drew)):ROwn encCg 121 9 0 w2.drew VV O) (Nat.zero_le _) ⟨1,a,b,id,nm,tx,vk,vn,had⟩ (by have:=HLK.out;omega) (by omega)
 have HP:=qH happ
 have HO3:Hid (Only (fun k=>VV.ownBlock=some k) w2 w3):=qH (((Only.refl _ w2).drew).trans ho3)
 have hon:Only (fun k=>VV.ownBlock=some k) w w3:=(Only.of_below HBX2.out).trans HO3.out
 have HON:=qH hon
 have hk3:Blk w3 l 176 _:=H2.out.only HO3.out (fun hk=>(hVB l hk).1 rfl)
 have HK3:=qH hk3
 have HB3:Hid (∀ k,v'.ownBlock=some k->k≠l/\(VV.ownBlock=some k\/w.heap.size<=k)):=qH (fun k hk=>by
  have hs2:w.heap.size<=w2.heap.size:=HBX2.out.size
  rcases hblk3 with e|⟨g3,e,hg3⟩
  ·rw[e] at hk;exact⟨(hVB k hk).1,.inl hk⟩
  ·rw[e] at hk;cases hk;exact⟨by have:w2.drew.heap.size<=k:=hg3;have:w2.drew.heap.size=w2.heap.size:=rfl;omega,.inr (by have:w2.drew.heap.size<=k:=hg3;have:w2.drew.heap.size=w2.heap.size:=rfl;omega)⟩)
 have C2:∀ x:OnW (fun k=>VV.ownBlock=some k) w2,x.w.cell? ⟨l,2,none⟩=some (.slice (some ⟨g,0,none⟩) O.length cap):=fun x=>(H2.out.only x.on (fun hk=>(hVB l hk).1 rfl)).cell (j:=2) rfl
 have CB:∀ x:OnW (fun k=>VV.ownBlock=some k) w2,Blk x.w w.heap.size 121 _:=fun x=>HBK2.out.only x.on (fun hk=>by have:=(hVB _ hk).2;omega)
 have b0:=fun x=>(CB x).cell (j:=0) rfl
 have b1:=fun x=>(CB x).cell (j:=1) rfl
 have b2:=fun x=>(CB x).cell (j:=2) rfl
 have b3:=fun x=>(CB x).cell (j:=3) rfl
 have b4:=fun x=>(CB x).cell (j:=4) rfl
 have b5:=fun x=>(CB x).cell (j:=5) rfl
 have b6:=fun x=>(CB x).cell (j:=6) rfl
 have b7:=fun x=>(CB x).cell (j:=7) rfl
 have b8:=fun x=>(CB x).cell (j:=8) rfl
 clear CB happ ho3 hon hk3 hb3 hblk3
 refine wp_region_mixO (fun k=>VV.ownBlock=some k) 10 (.one [0,1,2,3,4,5] 6 (.one [] 7 (.done [8,9]))) (by kernel_rfl) (fun c d v a w h=>by cases d<;>exact h) (by kernel_rfl) ?_
 simp only[wpMixT,pk_nil,pk_cons,pushAt_zero,pushAt_succ,List.drop_succ_cons,List.drop_zero]
 repeat (go_big_quiet_step (fail))
 refine wpQuiet_nil ?_
 clear b0 b1 b2 b3 b4 b5 b6 b7 b8
 have HVV:=qH hVV
 subst hVV
 clear HVV
 go_wp2_with fail
 refine thenQ_normal ⟨⟨⟨_,(Only.refl _ w2).drew.alloc _⟩,rfl⟩,?_⟩
 refine wpQuiet_nil ?_
 refine wpList_app_run rfl _ _ _ rfl rfl rfl HP.out ?_
 go_wp2_with fail
 refine thenQ_normal ⟨⟨⟨_,HO3.out⟩,rfl⟩,?_⟩
 repeat (go_big_quiet_step (fail))
 refine wpQuiet_nil ?_
 clear C2
 have HOW:=qH hown3
 obtain⟨A',cap',hv'q,_,_,_⟩:=hown3.shape eltCg
 have hll:(O++[(⟨1,a,b,id,nm,tx,vk,vn,had⟩:Chg)]).length=(O.length+1):=by simp
 rw[hll] at hv'q
 subst hv'q
 clear hown3 hll
 have f2:=HK3.out.fz 2
 have k2:=HK3.out.cell (j:=2) rfl
 have hsw:w.heap.size<=w3.heap.size:=HON.out.size
 have hk4:=HK3.out.set (j:=2) (by simp) (.slice A' (O.length+1) cap')
 have HW4:=qH (HOW.out.kept (w':=w3.setCell ⟨l,2,none⟩ (.slice A' (O.length+1) cap')) (fun g hg=>Below.heap_setCell _ _ _ _ (HB3.out g hg).1))
 have HO4:=qH ((HON.out.mono (T:=fun k=>k=l\/(Value.slice (some ⟨g,0,none⟩) O.length cap).ownBlock=some k) (fun k hk=>.inr hk)).setCell (p:=⟨l,2,none⟩) (.inl rfl) (.slice A' (O.length+1) cap'))
 have HK4:=qH hk4
 clear hk4
 go_wp2_with fail
 generalize w3.setCell ⟨l,2,none⟩ (.slice A' (O.length+1) cap')=w4 at *
 have m4:=HK4.out.cell (j:=4) rfl
 have m5:=HK4.out.cell (j:=5) rfl
 have f4:=HK4.out.fz 4
 have f5:=HK4.out.fz 5
 go_region
 go_wp2_with fail
 go_ret
 have hk6:=(HK4.out.set (j:=4) (by simp) (.int .i64 (co+P))).set (j:=5) (by simp) (.int .i64 (nw+P))
 refine⟨rfl,_,?_,hk6,((HO4.out.setCell (p:=⟨l,4,none⟩) (.inl rfl) (.int .i64 (co+P))).setCell (p:=⟨l,5,none⟩) (.inl rfl) (.int .i64 (nw+P))).drew,fun k hk=>(HB3.out k hk).2⟩
 exact HW4.out.kept (fun g hg=>by
  have h1:=(HB3.out g hg).1
  exact(Below.heap_setCell (w4.setCell ⟨l,4,none⟩ (.int .i64 (co+P))) ⟨l,5,none⟩ (.int .i64 (nw+P)) g h1).trans (Below.heap_setCell w4 ⟨l,4,none⟩ (.int .i64 (co+P)) g h1))
set_option maxRecDepth 100000 in
set_option maxHeartbeats 4000000 in
theorem gadd_merge {c:Chg} {x:Chg} {K:Nat} (hv:ROwn encCg 121 9 0 w ov O) (hx:O[K]?=some x) (hK:O.length=K+1) (hOl:O.length<=1100000) (hsep:∀ k,ov.ownBlock=some k->k≠l) (hc:c.k=1/\x.k=1/\x.b=c.a) (hok:ChgOk c) (hT:Tabs N w) (hR:Rules N w) (h:Blk w l 176 (logC gv (ov) ch co nw))  :
  Calls Tryz.prog 219 #[.pointer (some ⟨l,0,none⟩),chgV c] w fun e w'=>e=.returned (.int .i64 0)/\AddP w l gv ov ch co nw (O.set K { x with b:=c.b }) w':=by
 have hwf:∀ k,ov.ownBlock=some k->k<w.heap.size:=fun k hk=>hv.lt hk
 obtain⟨g,cap,rfl,hcap1,hcap2,hgB,hgl,hfz,hat⟩:=hv.lies eltCg (by omega)
 have hgl2:g≠l:=hsep g rfl
 have hlk:w.cell? ⟨g,K*9,none⟩=some (.int .i64 x.k):=hat K x 0 _ hx rfl
 have hlb:w.cell? ⟨g,K*9+2,none⟩=some (.int .i64 x.b):=hat K x 2 _ hx rfl
 clear hat
 have hbx:=below1 w (.cells (chgA c) 121)
 have hbk:=Blk.made w 121 (chgA c)
 have hl0:=h.lt
 have hck:=fun(w':World) (hb:Below w.heap.size w w')=>gcheck hok (hT.up hb) (hR.up hb)
 have s3:IntKind.i64.wrap ((O.length:Int) - 1)=(K:Int):=by rw[IntWalk.i64_in _ (by omega)];omega
 have hKl:K<O.length:=by omega
 have d0:decide ((0:Int)<=(K:Int))=true:=decide_eq_true (by omega)
 have H:=qH (h.up hbx)
 have HV:=qH (hv.up hbx)
 have HBX:=qH hbx
 have HBK:=qH hbk
 have HCK:=qH hck
 obtain⟨k,a,b,id,nm,tx,vk,vn,had⟩:=c
 obtain⟨hck1,hc⟩:=hc
 dsimp only at hck1
 subst hck1
 obtain⟨hcx,hc⟩:=hc
 dsimp only at hc
 rw[hcx] at hlk
 rw[hc] at hlb
 clear h hv hbk hck hok hT hR hwf hcap1 hgB
 have HLK:=qH (⟨hlk,hlb,hx,hK,hfz,hcap2,hOl,hgl⟩:_/\_/\_/\_/\_/\_/\_/\_)
 clear hlk hlb hx hK hfz hcap2 hOl hsep
 have hWl:Below w.heap.size w (w.alloc (.cells (chgA ⟨1,a,b,id,nm,tx,vk,vn,had⟩) 121)):=hbx
 clear hbx hWl
 go_enter Tryz.func219,Tryz.ntmps219
 go_wp2_with fail
 generalize w.alloc (.cells (chgA ⟨1,a,b,id,nm,tx,vk,vn,had⟩) 121)=W at *
 refine(gnoneL H.out).mono ?_
 rintro e w' ⟨rfl,rfl⟩
 have b0:=HBK.out.cell (j:=0) rfl
 have b1:=HBK.out.cell (j:=1) rfl
 have b2:=HBK.out.cell (j:=2) rfl
 have b3:=HBK.out.cell (j:=3) rfl
 have b4:=HBK.out.cell (j:=4) rfl
 have b5:=HBK.out.cell (j:=5) rfl
 have b6:=HBK.out.cell (j:=6) rfl
 have b7:=HBK.out.cell (j:=7) rfl
 have b8:=HBK.out.cell (j:=8) rfl
 go_wp2_with fail
 refine(HCK.out W HBX.out).mono ?_
 rintro e w1 ⟨rfl,hb1⟩
 have H1:=qH (H.out.up hb1)
 have HV1:=qH (HV.out.up hb1)
 have HBX1:=qH (up2 HBX.out hb1)
 have HBK1:=qH (HBK.out.up hb1)
 clear b0 b1 b2 b3 b4 b5 b6 b7 b8 hb1 H HV HBX HBK HCK
 have b0:=HBK1.out.cell (j:=0) rfl
 have b1:=HBK1.out.cell (j:=1) rfl
 have b2:=HBK1.out.cell (j:=2) rfl
 have b3:=HBK1.out.cell (j:=3) rfl
 have b4:=HBK1.out.cell (j:=4) rfl
 have b5:=HBK1.out.cell (j:=5) rfl
 have b6:=HBK1.out.cell (j:=6) rfl
 have b7:=HBK1.out.cell (j:=7) rfl
 have b8:=HBK1.out.cell (j:=8) rfl
 have l2:=H1.out.cell (j:=2) rfl
 have hlk:w1.cell? ⟨g,K*9,none⟩=_:=(World.cell?_of_block (w:=w) (a:=⟨g,K*9,none⟩) (HBX1.out.block g hgl)).trans HLK.out.1
 have hf1:w1.frozen? ⟨g,K*9+2,none⟩=false:=(World.frozen?_of_block (w:=w) (a:=⟨g,K*9+2,none⟩) (HBX1.out.block g hgl)).trans (HLK.out.2.2.2.2.1 _ (by have:=HLK.out.2.2.2.1;omega))
 have hlb:w1.cell? ⟨g,K*9+2,none⟩=_:=(World.cell?_of_block (w:=w) (a:=⟨g,K*9+2,none⟩) (HBX1.out.block g hgl)).trans HLK.out.2.1
 go_wp2_with fail
 go_region
 go_wp2_with fail
 go_region
 go_wp2_with fail
 go_ret
 obtain⟨_,_,hx,hK,hfz,hcap2,hOl,_⟩:=HLK.out
 have hp:=ROwn.put eltCg (HV1.out.up ((Below.refl _ w1).drew)) (i:=K) (j:=2) (x:=x) (y:={ x with b:=b }) (u:=.int .i64 b) hx (by omega) rfl
 refine⟨rfl,.slice (some ⟨g,0,none⟩) O.length cap,?_,(H1.out.kept (Below.heap_setCell w1 ⟨g,K*9+2,none⟩ (.int .i64 b) l (fun e=>hgl2 e.symm)):Blk _ _ _ _),?_,fun k hk=>.inl hk⟩
 ·rw[show O.length=(O.set K { x with b:=b }).length by simp]
  rw[List.length_set]
  exact(hp.kept (fun q hq=>rfl))
 ·exact((Only.of_below (S:=fun k=>k=l\/(Value.slice (some ⟨g,0,none⟩) O.length cap).ownBlock=some k) HBX1.out).setCell (p:=⟨g,K*9+2,none⟩) (.inr rfl) (.int .i64 b)).drew.drew
theorem set_last (O:List Chg) (y:Chg) {K:Nat} (hK:O.length=K+1):O.set K y=O.dropLast++[y]:=by
 have hne:O≠[]:=fun e=>by rw[e] at hK;simp at hK
 have h:=List.dropLast_concat_getLast hne
 have hl:O.dropLast.length=K:=by simp;omega
 generalize O.getLast hne=z at h
 generalize O.dropLast=L at h hl ⊢
 subst h
 rw[List.set_append_right _ _ (by omega),hl,Nat.sub_self,List.set_cons_zero]
def mergeB (O:List Chg) (c:Chg):Bool:=match O.getLast? with
 | some x=>decide (c.k=1/\x.k=1/\x.b=c.a)
 | none=>false
def logAdd (O:List Chg) (c:Chg):List Chg:=if mergeB O c=true then O.dropLast++[{ (O.getLastD chg0) with b:=c.b }] else O++[c]
def addCost (O:List Chg) (c:Chg):Nat:=if mergeB O c=true then 0 else priceC c
theorem gadd {c:Chg} (hov:O=[]->ov=.slice none 0 0) (hv:ROwn encCg 121 9 0 w ov O) (hOl:O.length<=1100000) (hsep:∀ k,ov.ownBlock=some k->k≠l) (hok:ChgOk c) (hT:Tabs N w) (hR:Rules N w) (h:Blk w l 176 (logC gv ov ch co nw)) (h0:0<=nw) (h1:nw+priceC c<=1048576) (h2:0<=co) (h3:co<=100000000) :
  Calls Tryz.prog 219 #[.pointer (some ⟨l,0,none⟩),chgV c] w fun e w'=>e=.returned (.int .i64 0)/\AddP w l gv ov ch (co+addCost O c) (nw+addCost O c) (logAdd O c) w':=by
 rcases Nat.eq_zero_or_pos O.length with hz|hz
 ·obtain rfl:=List.eq_nil_of_length_eq_zero hz
  obtain rfl:=hov rfl
  exact gadd_nil hok hT hR h h0 h1 h2 h3
 ·obtain⟨K,hK⟩:∃ K,O.length=K+1:=⟨O.length - 1,by omega⟩
  have hlt:K<O.length:=by omega
  have hx:O[K]?=some O[K]:=List.getElem?_eq_getElem hlt
  have hg:O.getLast?=some O[K]:=by rw[List.getLast?_eq_getElem?,show O.length - 1=K by omega];exact hx
  have hm:mergeB O c=decide (c.k=1/\O[K].k=1/\O[K].b=c.a):=by unfold mergeB;rw[hg]
  unfold logAdd addCost
  by_cases hc1:c.k=1
  ·by_cases hc2:O[K].k=1
   ·by_cases hc3:O[K].b=c.a
    ·rw[hm,decide_eq_true ⟨hc1,hc2,hc3⟩,if_pos rfl,if_pos rfl]
     have e:O.dropLast++[{ (O.getLastD chg0) with b:=c.b }]=O.set K { O[K] with b:=c.b }:=by
      have h1:O.getLastD chg0=O[K]:=by rw[List.getLastD_eq_getLast?,hg];rfl
      rw[h1]
      exact(set_last O _ hK).symm
     rw[e]
     simpa using gadd_merge hv hx hK hOl hsep ⟨hc1,hc2,hc3⟩ hok hT hR h
    ·rw[hm,decide_eq_false (fun q=>hc3 q.2.2),if_neg (by simp),if_neg (by simp)]
     exact gadd_n3 hv hx hK hOl hsep ⟨hc1,hc2,hc3⟩ hok hT hR h h0 h1 h2 h3
   ·rw[hm,decide_eq_false (fun q=>hc2 q.2.1),if_neg (by simp),if_neg (by simp)]
    exact gadd_n2 hv hx hK hOl hsep ⟨hc1,hc2⟩ hok hT hR h h0 h1 h2 h3
  ·rw[hm,decide_eq_false (fun q=>hc1 q.1),if_neg (by simp),if_neg (by simp)]
   exact gadd_n1 hv hx hK hOl hsep hc1 hok hT hR h h0 h1 h2 h3
end
end Go.Proofs.YtkpoodjhjfmfjaaGreatDoor
namespace Go.Proofs.YtkpoodjhjfmfjaaGreatDoor
open Go.RowKit
structure Chk where
 F:FuncId
 bd:Array Value
 cp:Array Value
 e:Int
abbrev Chk.val (c:Chk):Value:=.func (.func c.F) c.bd c.cp
def firstE:List Chk->Int
 | []=>0
 | c :: L=>if c.e=0 then firstE L else c.e
theorem firstE_drop:∀(L:List Chk) (i:Nat),(∀ j c,L[j]?=some c->j<i->c.e=0)->firstE (L.drop i)=firstE L
 | L,0,_=>rfl
 | [],i+1,_=>by simp
 | c :: L,i+1,h=>by
   have h0:c.e=0:=h 0 c rfl (by omega)
   rw[List.drop_succ_cons,firstE_drop L i (fun j d hd hj=>h (j+1) d (by simpa using hd) (by omega)),firstE,if_pos h0]
abbrev encK (c:Chk):List Value:=[c.val]
theorem eltK:Elt encK 157 33 1 8 Value.nilFunc:=⟨Tryz.underlying157,by kernel_rfl,rfl,by omega,fun _=>rfl,fun x u hu=>by simp at hu;rcases hu with rfl;rfl⟩
section
variable {w w' : World} {A : Option Addr} {L : List Chk}
set_option maxHeartbeats 1000000 in
theorem first_any (hL:RSl encK w A L) (cap:Nat) (hl:L.length<=1000) (hF:∀ c ∈ L,Enters c.F)
  (hc:∀(i:Nat) (c:Chk) (w1:World),L[i]?=some c->(∀(j:Nat) (d:Chk),L[j]?=some d->j<i->d.e=0)->Below w.heap.size w w1->Calls Tryz.prog c.F (c.bd++c.cp) w1 fun r w2=>r=.returned (.int .i64 c.e)/\Below w1.heap.size w1 w2) :
  Calls Tryz.prog 69 #[.slice A L.length cap] w fun r w'=>r=.returned (.int .i64 (firstE L))/\Below w.heap.size w w':=by
 have HC:=qH hc
 have HL:=qH hL
 have HF:=qH hF
 clear hc hL hF
 go_enter Tryz.func69,Tryz.ntmps69
 go_wp2_with fail
 go_loopw [8] (fun va wr=>∃ i:Nat,i<=L.length/\va=.int .i64 i/\(∀(j:Nat) (d:Chk),L[j]?=some d->j<i->d.e=0)/\Below w.heap.size w wr) (fun va _=>int2 va (.int .i64 L.length))
 case atStart=>exact⟨0,Nat.zero_le _,rfl,fun j d _ h=>by omega,Below.refl _ w⟩
 case round=>
  obtain⟨i,hi,rfl,hz,hb⟩:=hrel
  have HZ:=qH hz
  have HB:=qH hb
  clear hz hb
  by_cases hlt:i<L.length
  ·have d1:decide ((i:Int)<L.length)=true:=decide_eq_true (by omega)
   obtain⟨c,hx⟩:∃ c,L[i]?=some c:=⟨_,List.getElem?_eq_getElem hlt⟩
   obtain⟨g,o,rfl,hg,hat⟩:=(HL.out.up HB.out).at_ eltK hx
   have k0:=hat 0 _ rfl
   rw[Nat.mul_one,Nat.add_zero] at k0
   have hlt':(i:Int)<L.length:=by omega
   have s1:IntKind.i64.wrap ((i:Int)+1)=((i+1:Nat):Int):=by rw[IntWalk.i64_in _ (by omega)];omega
   have hin:∀(args:Array Value) (w:World),(callFunc c.F args).run Tryz.prog w=.ok (.enter c.F args) w:=HF.out c (List.mem_of_getElem? hx)
   have HX:=qH hx
   have HCC:=qH (HC.out i c wr hx HZ.out HB.out)
   clear hat hg hx
   obtain⟨F,bd,cp,e⟩:=c
   by_cases he:e=0
   ·have HE:=qH he
    have d2:((e:Int) != 0)=false:=by simp[he]
    clear he
    go_wp2_with fail
    refine HCC.out.mono ?_
    rintro r w1 ⟨rfl,hb1⟩
    go_wp2_with fail
    go_roundw
    case rel=>
     refine⟨i+1,by omega,by first|rfl|go_num,fun j d hd hj=>?_,up2 HB.out hb1⟩
     by_cases hji:j=i
     ·subst hji
      rw[HX.out] at hd;cases hd;exact HE.out
     ·exact HZ.out j d hd (by omega)
    case measure=>simp[int2];omega
   ·have HE:=qH he
    have d2:((e:Int) != 0)=true:=by simp[he]
    clear he
    go_wp2_with fail
    refine HCC.out.mono ?_
    rintro r w1 ⟨rfl,hb1⟩
    go_wp2_with fail
    go_ret
    refine⟨?_,up2 HB.out hb1⟩
    rw[<-firstE_drop L i HZ.out,List.drop_eq_getElem_cons hlt,(List.getElem_eq_iff hlt).2 HX.out,firstE,if_neg HE.out];rfl
  ·have d1:decide ((i:Int)<L.length)=false:=decide_eq_false (by omega)
   go_wp2_with fail
   go_ret
   refine⟨?_,HB.out⟩
   rw[<-firstE_drop L i HZ.out,List.drop_eq_nil_of_le (by omega)];rfl
end
end Go.Proofs.YtkpoodjhjfmfjaaGreatDoor
namespace Go.Proofs.YtkpoodjhjfmfjaaGreatDoor
open Go.RowKit
section
variable {w w' : World} {b t g pt lo hi : Nat} {cs : List Nat}
end
end Go.Proofs.YtkpoodjhjfmfjaaGreatDoor
