/- A part. -/
import Derived.Test.YtkpoodjhjfmfjaaGreatDoorZ05
import Derived.Laws.Cover4
import Derived.Laws.Concat
import Derived.Test.YtkpoodjhjfmfjaaGreatDoorZ06
import Derived.Shelf.Slices.Cells
import Derived.Shelf.Slices.Empties
import Derived.Test.YtkpoodjhjfmfjaaGreatDoorZ08
import Derived.Test.YtkpoodjhjfmfjaaGreatDoorZ07
import Derived.Test.YtkpoodjhjfmfjaaGreatDoorZrt
set_option linter.unusedVariables false
set_option linter.unusedSimpArgs false
namespace Go.Proofs.YtkpoodjhjfmfjaaGreatDoor
open Go.RowKit
def subL (cs:List Nat) (x y:Nat):List Nat:=(cs.drop (x - 1)).take (y - x)
section
variable {w w' : World} {t g : Nat} {cs : List Nat}
set_option maxHeartbeats 1000000 in
theorem gspan_ok (h:GapR w t g cs) (x y:Nat) (h1:1<=x) (h2:x<=y) (h3:y<=cs.length+1):Calls Tryz.prog 177 #[.pointer (some ⟨t,0,none⟩),.int .i64 x,.int .i64 y] w fun e w'=>e=.returned (.bool true)/\Below w.heap.size w w':=by
 have hl:=h.len
 have HS:=qH (gsize h)
 have d1:decide ((1:Int)<=(x:Int))=true:=decide_eq_true (by omega)
 have d2:(x<=y)=True:=by simp;omega
 obtain⟨n,hn⟩:∃ n,cs.length+1=n:=⟨_,rfl⟩
 have s1:IntKind.i64.wrap ((cs.length:Int)+1)=(n:Int):=by rw[IntWalk.i64_in _ (by omega)];omega
 rw[hn] at h3
 have d3:(y<=n)=True:=by simp;omega
 clear h h1 h2 h3 hn
 go_enter Tryz.func177,Tryz.ntmps177
 go_wp2_with fail
 refine HS.out.mono ?_
 rintro e w1 ⟨rfl,hb1⟩
 go_wp2_with fail
 go_ret
 exact⟨rfl,hb1⟩
theorem GapI.conv {B:List Int} {cap st en:Nat} (h:GapI w t g B cap st en cs) (a b c:Nat) (hab:a<=b) (hb:b<=B.length) :
  (convert 182 9 (.slice (some ⟨g,a,none⟩) (b - a) c)).run Tryz.prog w=.ok (.string (runesBytes ((B.drop a).take (b - a)))) w:=by
 have hr:=run_convert_runes (P:=Tryz.prog) w 182 9 21 ⟨g,a,none⟩ (b - a) c ((B.drop a).take (b - a)) (by rw[List.length_take,List.length_drop];omega) Tryz.underlying182 Tryz.underlying21 Tryz.underlying9 (fun j hj=>by
  rw[List.length_take,List.length_drop] at hj
  have hz:B[a+j]?=some (((B.drop a).take (b - a)).getD j 0):=by
   rw[List.getD_eq_getElem?_getD,List.getElem?_take,if_pos (by omega),List.getElem?_drop,List.getElem?_eq_getElem (show a+j<B.length by omega)];rfl
  have:=h.hb (a+j) _ hz
  rw[Go.WideShapes.add_plain];exact this)
 rw[hr,List.take_take,Nat.min_self]
theorem part_lo {B R:List Int} {a b st:Nat} (h:b<=st) (hs:st<=B.length):(B.drop a).take (b - a)=((B.take st++R).drop a).take (b - a):=by
 apply List.ext_getElem?
 intro i
 rw[List.getElem?_take,List.getElem?_take]
 split
 ·rw[List.getElem?_drop,List.getElem?_drop,List.getElem?_append_left (by rw[List.length_take];omega),List.getElem?_take,if_pos (by omega)]
 ·rfl
theorem part_hi {B:List Int} {a b st en:Nat} (h:st<=a) (h1:st<=en) (hs:en<=B.length):(B.drop (a+(en - st))).take (b - a)=((B.take st++B.drop en).drop a).take (b - a):=by
 apply List.ext_getElem?
 intro i
 rw[List.getElem?_take,List.getElem?_take]
 split
 ·rw[List.getElem?_drop,List.getElem?_drop,List.getElem?_append_right (by rw[List.length_take];omega),List.getElem?_drop,List.length_take]
  congr 1
  omega
 ·rfl
theorem part_mid {B:List Int} {a b st en:Nat} (h:a<=st) (hb:st<=b) (h1:st<=en) (hs:en<=B.length):(B.drop a).take (st - a)++(B.drop en).take (b - st)=((B.take st++B.drop en).drop a).take (b - a):=by
 have e1:(B.take st++B.drop en).drop a=(B.drop a).take (st - a)++B.drop en:=by
  rw[List.drop_append_of_le_length (by rw[List.length_take];omega),List.drop_take]
 have hl:((B.drop a).take (st - a)).length=st - a:=by rw[List.length_take,List.length_drop];omega
 rw[e1,List.take_append,hl,show b - a -(st - a)=b - st by omega]
 congr 1
 exact(List.take_of_length_le (by rw[hl];omega)).symm
theorem encS_part (cs:List Nat) (a n:Nat):encS ((cs.drop a).take n)=runesBytes (((cs.map Int.ofNat).drop a).take n):=by
 unfold encS
 rw[List.map_take,List.map_drop];rfl
set_option maxRecDepth 100000 in
set_option maxHeartbeats 4000000 in
theorem gslice_ok (h:GapR w t g cs) (x y:Nat) (h1:1<=x) (h2:x<=y) (h3:y<=cs.length+1):Calls Tryz.prog 101 #[.pointer (some ⟨t,0,none⟩),.int .i64 x,.int .i64 y] w fun e w'=>e=.returned (.tuple #[.string (encS (subL cs x y)),.int .i64 0])/\Below w.heap.size w w':=by
 have HSP:=qH (gspan_ok h x y h1 h2 h3)
 obtain⟨B,cap,st,en,h⟩:=h
 have hlen:=h.len
 have hc:=h.hc
 have hm:=h.hm
 have q1:=h.h1
 have q2:=h.h2
 have HN:=qH (gnone h)
 have H:=qH h
 obtain⟨a,ha⟩:∃ a,a+1=x:=⟨x - 1,by omega⟩
 obtain⟨b,hb⟩:∃ b,b+1=y:=⟨y - 1,by omega⟩
 have s1:IntKind.i64.wrap ((x:Int) - 1)=(a:Int):=by rw[IntWalk.i64_in _ (by omega)];omega
 have s2:IntKind.i64.wrap ((y:Int) - 1)=(b:Int):=by rw[IntWalk.i64_in _ (by omega)];omega
 have hab:a<=b:=by omega
 have hbn:b<=cs.length:=by omega
 have HE:Hid (subL cs x y=(cs.drop a).take (b - a)):=qH (by unfold subL;rw[show x - 1=a by omega,show y - x=b - a by omega])
 clear h h1 h2 h3
 go_enter Tryz.func101,Tryz.ntmps101
 go_wp2_with fail
 refine HN.out.mono ?_
 rintro e w1 ⟨rfl,rfl⟩
 go_wp2_with fail
 refine HSP.out.mono ?_
 rintro e w1 ⟨rfl,hb1⟩
 have h1:=H.out.up hb1
 have H1:=qH h1
 have c0:=h1.c0
 have c1:=h1.c1
 have c2:=h1.c2
 clear h1 H HSP HN
 by_cases hA:b<=st
 ·have d1:(b<=st)=True:=by simp;omega
  have hcv:=fun c=>H1.out.conv a b c hab (by omega)
  rw[part_lo (R:=B.drop en) hA (by omega),H1.out.hB,<-encS_part,<-HE.out] at hcv
  by_cases hca:cap=a
  ·have hcv0:=fun c=>H1.out.conv 0 0 c (Nat.le_refl _) (Nat.zero_le _)
   have e0:b - a=0:=by omega
   have e1:subL cs x y=[]:=by rw[HE.out,e0];rfl
   have hcv1:∀ c,(convert 182 9 (.slice (some ⟨g,0,none⟩) (b - a) c)).run Tryz.prog w1=.ok (.string (encS (subL cs x y))) w1:=fun c=>by rw[e0,e1];exact hcv0 c
   clear hcv hcv0 e0 e1 HE
   go_wp2_with fail
   go_ret2
   exact⟨rfl,hb1⟩
  ·clear HE
   go_wp2_with fail
   go_ret2
   exact⟨rfl,hb1⟩
 ·have d1:(b<=st)=False:=by simp;omega
  by_cases hB:st<=a
  ·have d2:(st<=a)=True:=by simp;omega
   have s3:IntKind.i64.wrap ((a:Int)+(en:Int))=((a+en:Nat):Int):=by rw[IntWalk.i64_in _ (by omega)];omega
   have s4:IntKind.i64.wrap (((a+en:Nat):Int) -(st:Int))=((a+(en - st):Nat):Int):=by rw[IntWalk.i64_in _ (by omega)];omega
   have s5:IntKind.i64.wrap ((b:Int)+(en:Int))=((b+en:Nat):Int):=by rw[IntWalk.i64_in _ (by omega)];omega
   have s6:IntKind.i64.wrap (((b+en:Nat):Int) -(st:Int))=((b+(en - st):Nat):Int):=by rw[IntWalk.i64_in _ (by omega)];omega
   obtain⟨a',ha'⟩:∃ a',a+(en - st)=a':=⟨_,rfl⟩
   obtain⟨b',hb'⟩:∃ b',b+(en - st)=b':=⟨_,rfl⟩
   obtain⟨a2,ha2⟩:∃ a2,a+en=a2:=⟨_,rfl⟩
   obtain⟨b2,hb2⟩:∃ b2,b+en=b2:=⟨_,rfl⟩
   rw[ha2] at s3 s4
   rw[hb2] at s5 s6
   rw[ha'] at s4
   rw[hb'] at s6
   have hab':a'<=b':=by omega
   have hbB:b'<=B.length:=by omega
   have hcv:∀(X:UpW w1.heap.size w1) c,(convert 182 9 (.slice (some ⟨g,a',none⟩) (b' - a') c)).run Tryz.prog X.w=.ok (.string (encS (subL cs x y))) X.w:=fun X c=>by
    rw[(H1.out.up X.up).conv a' b' c hab' hbB,HE.out,encS_part,<-H1.out.hB,<-part_hi hB q1 q2,ha',show b' - a'=b - a by omega]
   have C0:∀ X:UpW w1.heap.size w1,X.w.cell? ⟨t,0,none⟩=_:=fun X=>(H1.out.up X.up).c0
   have C1:∀ X:UpW w1.heap.size w1,X.w.cell? ⟨t,1,none⟩=_:=fun X=>(H1.out.up X.up).c1
   have C2:∀ X:UpW w1.heap.size w1,X.w.cell? ⟨t,2,none⟩=_:=fun X=>(H1.out.up X.up).c2
   have hbc:b'<=cap:=by omega
   by_cases hca:cap=a'
   ·have hcv1:∀(X:UpW w1.heap.size w1) c,(convert 182 9 (.slice (some ⟨g,0,none⟩) (b' - a') c)).run Tryz.prog X.w=.ok (.string (encS (subL cs x y))) X.w:=fun X c=>by
     have e0:b' - a'=0:=by omega
     have e1:subL cs x y=[]:=by rw[HE.out,show b - a=0 by omega];rfl
     rw[e0,e1];exact(H1.out.up X.up).conv 0 0 c (Nat.le_refl _) (Nat.zero_le _)
    clear ha' hb' ha2 hb2 ha hb HE hcv
    go_wp2_with fail
    refine wp_region_up w1.heap.size (by kernel_rfl) (by kernel_rfl) ?_
    repeat (go_big_quiet_step (fail))
    refine wpQuiet_nil ?_
    rintro ⟨w2,hbb⟩
    dsimp only
    clear C0 C1 C2
    go_wp2_with fail
    go_ret2
    exact⟨rfl,up2 hb1 hbb⟩
   ·clear ha' hb' ha2 hb2 ha hb HE
    go_wp2_with fail
    refine wp_region_up w1.heap.size (by kernel_rfl) (by kernel_rfl) ?_
    repeat (go_big_quiet_step (fail))
    refine wpQuiet_nil ?_
    rintro ⟨w2,hbb⟩
    dsimp only
    clear C0 C1 C2
    go_wp2_with fail
    go_ret2
    exact⟨rfl,up2 hb1 hbb⟩
  ·have d2:(st<=a)=False:=by simp;omega
   have s5:IntKind.i64.wrap ((b:Int)+(en:Int))=((b+en:Nat):Int):=by rw[IntWalk.i64_in _ (by omega)];omega
   have s6:IntKind.i64.wrap (((b+en:Nat):Int) -(st:Int))=((b+(en - st):Nat):Int):=by rw[IntWalk.i64_in _ (by omega)];omega
   obtain⟨b',hb'⟩:∃ b',b+(en - st)=b':=⟨_,rfl⟩
   obtain⟨b2,hb2⟩:∃ b2,b+en=b2:=⟨_,rfl⟩
   rw[hb2] at s5 s6
   rw[hb'] at s6
   have hab':en<=b':=by omega
   have hbB:b'<=B.length:=by omega
   have hbc:b'<=cap:=by omega
   have has:a<=st:=by omega
   have hsc:st<=cap:=by omega
   have hca:¬ cap=a:=by omega
   have hce:¬ cap=en:=by omega
   obtain⟨S1,hS1⟩:∃ S1,runesBytes ((B.drop a).take (st - a))=S1:=⟨_,rfl⟩
   obtain⟨S2,hS2⟩:∃ S2,runesBytes ((B.drop en).take (b' - en))=S2:=⟨_,rfl⟩
   have hcv1:∀(X:UpW w1.heap.size w1) c,(convert 182 9 (.slice (some ⟨g,a,none⟩) (st - a) c)).run Tryz.prog X.w=.ok (.string S1) X.w:=fun X c=>by
    rw[(H1.out.up X.up).conv a st c has (by omega),hS1]
   have hcv2:∀(X:UpW w1.heap.size w1) c,(convert 182 9 (.slice (some ⟨g,en,none⟩) (b' - en) c)).run Tryz.prog X.w=.ok (.string S2) X.w:=fun X c=>by
    rw[(H1.out.up X.up).conv en b' c hab' hbB,hS2]
   have hfin:encS (subL cs x y)=S1++S2:=by
    rw[HE.out,encS_part,<-H1.out.hB,<-part_mid has (by omega) q1 q2,<-hS1,<-hS2,show b' - en=b - st by omega]
    apply bytes_ext
    have hr:=fun(l:List Int) (s:ByteArray)=>(show(l.foldl (fun r n=>r++Utf8.encode n) s).data.toList=s.data.toList++l.flatMap (fun n=>(Utf8.encode n).data.toList) from by
     induction l generalizing s with
     | nil=>simp
     | cons c l ih=>rw[List.foldl_cons,ih];simp)
    unfold runesBytes
    rw[hr,List.flatMap_append]
    simp only[ByteArray.data_append,Array.toList_append,hr]
    simp
   have HF:=qH hfin
   have z1:S1.size<=4*B.length:=by
    have:=runesBytes_size_le ((B.drop a).take (st - a))
    rw[hS1,List.length_take,List.length_drop] at this;omega
   have z2:S2.size<=4*B.length:=by
    have:=runesBytes_size_le ((B.drop en).take (b' - en))
    rw[hS2,List.length_take,List.length_drop] at this;omega
   have hadd:∀ w,(binOp .add 9 (.string S1) (.string S2)).run Tryz.prog w=.ok (.string (S1++S2)) w:=fun w=>by
    rw[binOp_string_add];exact run_string_add_sum _ S1 S2 (by omega)
   have C0:∀ X:UpW w1.heap.size w1,X.w.cell? ⟨t,0,none⟩=_:=fun X=>(H1.out.up X.up).c0
   have C1:∀ X:UpW w1.heap.size w1,X.w.cell? ⟨t,1,none⟩=_:=fun X=>(H1.out.up X.up).c1
   have C2:∀ X:UpW w1.heap.size w1,X.w.cell? ⟨t,2,none⟩=_:=fun X=>(H1.out.up X.up).c2
   clear hb' hb2 ha hb HE hS1 hS2 hfin
   go_wp2_with fail
   refine wp_region_up w1.heap.size (by kernel_rfl) (by kernel_rfl) ?_
   repeat (go_big_quiet_step (fail))
   refine wpQuiet_nil ?_
   rintro ⟨w2,hbb⟩
   dsimp only
   clear C0 C1 C2
   go_wp2_with fail
   go_ret2
   exact⟨by rw[HF.out];rfl,up2 hb1 hbb⟩
end
end Go.Proofs.YtkpoodjhjfmfjaaGreatDoor
namespace Go.Proofs.YtkpoodjhjfmfjaaGreatDoor
open Go.RowKit Go.Lib
section
variable {w w' : World}
theorem sdelete_own {D i j:Nat} {v:Value} {xs:List Int} (hv:ROwn encI 3 1 D w v xs) (hij:i<=j) (hj:j<=xs.length) :
  Calls Tryz.prog 222 #[v,.int .i64 i,.int .i64 j] w (InsP w D v (xs.take i++xs.drop j)):=by
 rcases own_open hv with ⟨rfl,rfl⟩|⟨g,cap,cl,rfl,hDg,hgb,hgl,hgm,hgs,hgt⟩
 ·simp only[List.length_nil,Nat.le_zero] at hj
  subst hj
  obtain rfl:i=0:=by omega
  refine(Any.slices_Delete_int_empty Tryz.laysDelete none 0 w).mono ?_
  rintro e w' ⟨rfl,rfl⟩
  exact⟨_,rfl,by simpa using hv,Only.refl _ _,fun k hk=>.inl hk⟩
 ·have hgm':=hgm
  unfold maxLen at hgm'
  have:=Any.slices_Delete_int_cells Tryz.laysDelete g 0 xs.length cap i j xs w (Nat.le_refl _) hgl (by omega) hij hj
   (fun q hq=>by rw[Nat.zero_add,cell_list hgb];exact get_of_take hgt (by simp[List.getElem?_map,List.getElem?_eq_getElem hq,List.getD_eq_getElem?_getD])) (fun q _=>froz_list hgb _)
  rw[List.take_of_length_le (Nat.le_refl _)] at this
  refine this.mono ?_
  rintro e w' ⟨rfl,q,rfl⟩
  have hB:=heap_setCells ((xs.take i++xs.drop j++List.replicate (j - i) 0).map (Value.int .i64)) 0 (w.drewN q) cl hgb
  have hlen:(xs.take i++xs.drop j).length=xs.length -(j - i):=by simp;omega
  refine⟨_,rfl,?_,((⟨rfl,rfl,rfl,Nat.le_refl _,fun _ _ _=>rfl⟩:Only (fun k=>(Value.slice (some ⟨g,0,none⟩) xs.length cap).ownBlock=some k) w (w.drewN q))).trans ((only_setCells _ _ _).mono (fun k hk=>by rw[hk];rfl)),fun k hk=>.inl hk⟩
  have h2:=own_mk (D:=D) (xs:=xs.take i++xs.drop j) (cap:=cap) hDg hB (by omega) hgm (by rw[stL_length];exact hgs) (by
   rw[stL_eq _ _ _ (by simp;omega)]
   simp only[List.take_zero,List.nil_append]
   rw[List.take_append_of_le_length (by first|(simp;done)|(simp;omega)),List.map_append,List.take_append_of_le_length (by simp)]
   rw[List.take_of_length_le (by simp)])
  rw[hlen] at h2
  exact h2
end
def delC (cs:List Nat) (x y:Nat):List Nat:=cs.take (x - 1)++cs.drop (y - 1)
section
variable {w w' : World} {t g st en : Nat} {fv : Value} {B : List Int} {cs : List Nat}
set_option maxRecDepth 100000 in
set_option maxHeartbeats 4000000 in
theorem gdelete_ok (h:GapX w t g fv B st en cs) (x y:Nat) (hx1:1<=x) (hxy:x<=y) (hy:y<=cs.length+1) :
  Calls Tryz.prog 153 #[.pointer (some ⟨t,0,none⟩),.int .i64 x,.int .i64 y] w fun e w'=>e=.returned (.int .i64 0)/\GapTo w t g fv (delC cs x y) w':=by
 have hlen:=h.len
 have h1:=h.gw.h1
 have h2:=h.gw.h2
 have hle:=h.le
 obtain⟨i,hi⟩:∃ i,i+1=x:=⟨x - 1,by omega⟩
 obtain⟨d,hd⟩:∃ d,d=y - x:=⟨_,rfl⟩
 have s1:IntKind.i64.wrap ((x:Int) - 1)=(i:Int):=by rw[IntWalk.i64_in _ (by omega)];omega
 have s2:IntKind.i64.wrap ((y:Int) - x)=(d:Int):=by rw[IntWalk.i64_in _ (by omega)];omega
 have HSP:=qH (gspan_ok h.r x y hx1 hxy hy)
 have HN:=qH (gnone1 h.gw)
 have AA:=qH (⟨hlen,h1,h2,hi,hd,hx1,hxy,hy,hle⟩:_/\_/\_/\_/\_/\_/\_/\_/\_)
 have H:=qH h
 clear h hlen h1 h2 hi hd hx1 hxy hy hle
 go_enter Tryz.func153,Tryz.ntmps153
 go_wp2_with fail
 refine HN.out.mono ?_
 rintro e w' ⟨rfl,rfl⟩
 clear HN
 go_wp2_with fail
 refine HSP.out.mono ?_
 rintro e w1 ⟨rfl,hb1⟩
 have B1:=qH hb1
 clear hb1 HSP
 go_wp2_with fail
 refine(gmove_ok (H.out.up B1.out).gw (i:=i) (by have:=AA.out;omega)).mono ?_
 rintro e w5 ⟨rfl,ho5,hz5,B5,hg5,hl5,ht5⟩
 obtain⟨E,hE⟩:∃ E,E=i+(en - st):=⟨_,rfl⟩
 rw[<-hE] at hg5 ht5
 rw[(H.out).txt] at ht5
 have HX5:=qH (show GapX w5 t g fv B5 i E cs from⟨hg5,((H.out.up B1.out).own).kept (fun k hk=>ho5.block k ((H.out.up B1.out).own.lt hk) (fun e=>by have:=H.out.nf k hk;omega)),H.out.nf,ht5,H.out.cn,H.out.le⟩)
 have O5:=qH (show Only (gapFoot t g fv) w w5 from(Only.of_below B1.out).trans (ho5.mono (fun k hk=>hk.elim .inl (fun h=>.inr (.inl h)))))
 have c2:w5.cell? ⟨t,2,none⟩=some (.int .i64 E):=hg5.c2
 have f2:=hg5.fzT 2
 have s3:IntKind.i64.wrap ((E:Int)+(d:Int))=((E+d:Nat):Int):=by rw[IntWalk.i64_in _ (by have:=AA.out;have:=hg5.lim;omega)];omega
 have hEB:E+d<=B5.length:=by have:=AA.out;omega
 obtain⟨w6,hw6⟩:∃ w6,w5.setCell ⟨t,2,none⟩ (.int .i64 ((E:Int)+(d:Int)))=w6:=⟨_,rfl⟩
 have ho6:Only (fun k=>k=t) w5 w6:=hw6▸(Only.refl (fun k=>k=t) w5).setCell (p:=⟨t,2,none⟩) rfl _
 have hg6:GapW w6 t g B5 i (E+d) fv:=hw6▸hg5.setE (E+d) (by have:=hg5.h1;omega) hEB
 have hown6:ROwn encI 3 1 0 w6 fv (feeds cs):=HX5.out.own.kept (fun k hk=>ho6.block k (HX5.out.own.lt hk) (H.out.nf k hk).1)
 have hO6:Only (gapFoot t g fv) w w6:=O5.out.trans (ho6.mono (fun k hk=>.inl hk))
 have hfl:(feeds cs).length<=65536:=by have:=feedsF_len cs 1;have:=H.out.le;unfold feeds;omega
 have hst:=(feedsF_sorted cs 1).imp (R:=(·<·)) (S:=(·<=·)) (fun h=>Int.le_of_lt h)
 have hcn:(feeds cs).countP (fun z=>decide (z<(x:Int)))=(feeds (cs.take i)).length:=by
  have:=feeds_count (cs.take i) (cs.drop i) (x:Int) (by have:=AA.out;simp;omega)
  rwa [List.take_append_drop] at this
 have hcm:(feeds cs).countP (fun z=>decide (z<(y:Int)))=(feeds (cs.take (y - 1))).length:=by
  have:=feeds_count (cs.take (y - 1)) (cs.drop (y - 1)) (y:Int) (by have:=AA.out;simp;omega)
  rwa [List.take_append_drop] at this
 have hBS:=fun(w':World) (hb:Below w6.heap.size w6 w')=>bsearch_own (hown6.up hb) hst (by omega) (x:Int)
 have hBT:=fun(w':World) (hb:Below w6.heap.size w6 w')=>bsearch_own (hown6.up hb) hst (by omega) (y:Int)
 obtain⟨X,hX⟩:∃ X,X=feeds cs:=⟨_,rfl⟩
 rw[<-hX] at hown6 hfl hBS hBT hcn hcm
 rw[hcn] at hBS
 rw[hcm] at hBT
 obtain⟨i2,hi2⟩:∃ i2,i2=(feeds (cs.take i)).length:=⟨_,rfl⟩
 obtain⟨k2,hk2⟩:∃ k2,k2=(feeds (cs.take (y - 1))).length:=⟨_,rfl⟩
 rw[<-hi2] at hBS hcn
 rw[<-hk2] at hBT hcm
 have hk2l:k2<=X.length:=by rw[<-hcm];exact List.countP_le_length
 have hik:i2<=k2:=by rw[<-hcm,<-hcn];exact List.countP_mono_left (fun z _ h=>by simp at h ⊢;have:=AA.out;omega)
 have hSD:=fun(w':World) (hb:Below w6.heap.size w6 w')=>sdelete_own (hown6.up hb) hik hk2l
 have HQ:=qH (⟨hO6,hfl,hX,hi2,hk2,hk2l,hik,hE,hl5,hEB,ht5⟩:_/\_/\_/\_/\_/\_/\_/\_/\_/\_/\_)
 have HG6:=qH hg6
 have HOW6:=qH hown6
 have HBS:=qH hBS
 have HBT:=qH hBT
 have HSD:=qH hSD
 have htk:=AA.out
 clear hO6 hfl hX hi2 hk2 hk2l hik hE hl5 hEB ht5 hcn hcm hBS hBT hSD hst ho6 hg5 ho5 hz5 htk
 obtain⟨A,cap,rfl,hcp1,hcp2,hrs⟩:=hown6.shape eltI
 clear hrs hown6
 have c3:w6.cell? ⟨t,3,none⟩=some (.slice A X.length cap):=hg6.c3
 clear hg6
 go_wp2_with fail
 refine(HBS.out w6 (Below.refl _ _)).mono ?_
 rintro e w7 ⟨rfl,hb7⟩
 have B7:=qH hb7
 have c3:w7.cell? ⟨t,3,none⟩=some (.slice A X.length cap):=(HG6.out.up hb7).c3
 clear hb7
 go_wp2_with fail
 refine(HBT.out w7 B7.out).mono ?_
 rintro e w8 ⟨rfl,hb8⟩
 have B8:=qH (up2 B7.out hb8)
 have c3:w8.cell? ⟨t,3,none⟩=some (.slice A X.length cap):=(HG6.out.up B8.out).c3
 clear hb8
 go_wp2_with fail
 refine(HSD.out w8 B8.out).mono ?_
 rintro e w9 ⟨v',rfl,hown9,ho9,hb9⟩
 have hQ:=HQ.out
 have hg9:GapW w9 t g B5 i (E+d) (.slice A X.length cap):=(HG6.out.up B8.out).only ho9 (fun e=>(H.out.nf t e).1 rfl) (fun e=>(H.out.nf g e).2 rfl)
 have hO9:Only (gapFoot t g (.slice A X.length cap)) w w9:=(hQ.1.trans (Only.of_below B8.out)).trans (ho9.mono (fun k hk=>.inr (.inr hk)))
 have hz9:w.heap.size<=w8.heap.size:=(hQ.1.trans (Only.of_below B8.out)).size
 obtain⟨X2,hX2⟩:∃ X2,X2=X.take i2++X.drop k2:=⟨_,rfl⟩
 rw[<-hX2] at hown9
 have hX2l:X2.length=X.length -(k2 - i2):=by rw[hX2];simp;omega
 have hi2X:i2<=X2.length:=by omega
 have hnf9:∀ k,v'.ownBlock=some k->k≠t/\k≠g:=fun k hk=>(hb9 k hk).elim (H.out.nf k) (fun e=>⟨by have:=hg9.ltT;have:=(HG6.out.up B8.out).ltT;omega,by have:=(HG6.out.up B8.out).ltG;omega⟩)
 have hft9:∀ k,v'.ownBlock=some k->gapFoot t g (.slice A X.length cap) k\/w.heap.size<=k:=fun k hk=>(hb9 k hk).elim (fun e=>.inl (.inr (.inr e))) (fun e=>.inr (by omega))
 obtain⟨A9,c9,hv9,_,hcm9,_⟩:=hown9.shape eltI
 have f3:=hg9.fzT 3
 have c3:w9.cell? ⟨t,3,none⟩=some (.slice A X.length cap):=hg9.c3
 subst hv9
 obtain⟨wA,hwA⟩:∃ wA,w9.setCell ⟨t,3,none⟩ (.slice A9 X2.length c9)=wA:=⟨_,rfl⟩
 have hoA:Only (fun k=>k=t) w9 wA:=hwA▸(Only.refl (fun k=>k=t) w9).setCell (p:=⟨t,3,none⟩) rfl _
 have hgA:GapW wA t g B5 i (E+d) (.slice A9 X2.length c9):=hwA▸hg9.setF _
 have hownA:ROwn encI 3 1 0 wA (.slice A9 X2.length c9) X2:=hown9.kept (fun k hk=>hoA.block k (hown9.lt hk) (hnf9 k hk).1)
 have hOA:Only (gapFoot t g (.slice A X.length cap)) w wA:=hO9.trans (hoA.mono (fun k hk=>.inl hk))
 have hXl:X2.length<=65536:=by omega
 have RR:=qH (⟨hgA,hownA,hOA,hnf9,hft9,hX2,hi2X,hXl,hX2l⟩:_/\_/\_/\_/\_/\_/\_/\_/\_)
 clear hQ hg9 hO9 hz9 hX2 hX2l hi2X hnf9 hft9 hcm9 hoA hgA hownA hOA hXl ho9 hb9 hown9
 go_wp2_with fail
 clear c3
 clear hwA f3
 go_loopw [7] (fun vk wr=>∃ j:Nat,i2<=j/\j<=X2.length/\vk=.int .i64 j/\GapW wr t g B5 i (E+d) (.slice A9 X2.length c9)/\ROwn encI 3 1 0 wr (.slice A9 X2.length c9) (bump X2 i2 j (-(d:Int)))/\Only (fun k=>gapFoot t g (.slice A X.length cap) k\/(Value.slice A9 X2.length c9).ownBlock=some k) w wr/\wA.heap.size<=wr.heap.size) (fun vk _=>X2.length -(intOf vk).toNat)
 case atStart=>
  obtain⟨hgA,hownA,hOA,hnf9,hft9,hX2,hi2X,hXl,hX2l⟩:=RR.out
  exact⟨i2,Nat.le_refl _,hi2X,rfl,hgA,by rw[bump_start];exact hownA,hOA.mono (fun k hk=>.inl hk),Nat.le_refl _⟩
 case round=>
  obtain⟨j,hj1,hj2,rfl,hgw,how,hon,hsz⟩:=hrel
  have hXl:=RR.out.2.2.2.2.2.2.2.1
  by_cases hlt:j<X2.length
  ·have hbl:(bump X2 i2 j (-(d:Int))).length=X2.length:=bump_len _ hj1 hj2
   obtain⟨q,cap',hAq,_,_,_,hq2,hq3,hq4⟩:=how.lies eltI (by omega)
   have hA2:A9=some ⟨q,0,none⟩:=by injection hAq
   subst hA2
   have hnq:=RR.out.2.2.2.1 q rfl
   have hx:=bump_get (-(d:Int)) hj1 hlt
   have c3:wr.cell? ⟨t,3,none⟩=some (.slice (some ⟨q,0,none⟩) X2.length c9):=hgw.c3
   have hcell:wr.cell? ⟨q,j,none⟩=some (.int .i64 X2[j]):=by
    have:=hq4 j X2[j] 0 (.int .i64 X2[j]) hx rfl
    simpa using this
   have d1:decide (j<X2.length)=true:=decide_eq_true hlt
   have hfz:wr.frozen? ⟨q,j,none⟩=false:=hq3 j (by omega)
   have hzb:1<=X2[j]/\X2[j]<=65537:=by
    have hm:X2[j] ∈ X2:=List.getElem_mem _
    have hsub:∀ q ∈ X2,q ∈ feeds cs:=fun q hq=>by
     rw[RR.out.2.2.2.2.2.1] at hq
     rw[<-HQ.out.2.2.1]
     rcases List.mem_append.1 hq with h|h
     ·exact List.mem_of_mem_take h
     ·exact List.mem_of_mem_drop h
    have hm2:X2[j] ∈ feeds cs:=hsub _ hm
    have:=feedsF_mem cs 1 X2[j] hm2
    have:=H.out.le
    omega
   have hst:=bump_step (-(d:Int)) hj1 hlt
   obtain⟨z,hz⟩:∃ z,z=X2[j]:=⟨_,rfl⟩
   rw[<-hz] at hx hcell hzb hst
   have s4:IntKind.i64.wrap (z -(d:Int))=z - d:=IntWalk.i64_in _ (by have:=AA.out;omega)
   have s5:IntKind.i64.wrap ((j:Int)+1)=((j+1:Nat):Int):=by rw[IntWalk.i64_in _ (by omega)];omega
   have QQ:=qH (⟨hgw,how,hon,hsz,hx,hbl,hnq,hst,hj1,hlt⟩:_/\_/\_/\_/\_/\_/\_/\_/\_/\_)
   clear hgw how hon hsz hx hbl hnq hst hj1 hq4 hq3 hAq hXl hzb hz hj2
   go_wp2_with fail
   go_roundw
   case rel=>
    obtain⟨hgw,how,hon,hsz,hx,hbl,hnq,hst,hj1,hlt⟩:=QQ.out
    refine⟨j+1,by omega,by omega,by first|rfl|go_num,?_,?_,?_,?_⟩
    ·exact(hgw.only ((Only.refl (fun k=>k=q) wr).setCell (p:=⟨q,j,none⟩) rfl _) (fun e=>hnq.1 e.symm) (fun e=>hnq.2 e.symm):GapW _ _ _ _ _ _ _)
    ·rw[<-hst]
     rw[<-hbl] at how ⊢
     have e:z+-(d:Int)=z - d:=by omega
     have:=how.put eltI (i:=j) (j:=0) (x:=z) (y:=z+-(d:Int)) (u:=.int .i64 (z - d)) hx (by omega) (by rw[e];rfl)
     simpa using this
    ·exact hon.setCell (p:=⟨q,j,none⟩) (.inr rfl) _
    ·simpa using hsz
   case measure=>simp[intOf];omega
  ·have hje:j=X2.length:=by omega
   subst hje
   have d1:decide (X2.length<X2.length)=false:=decide_eq_false (by omega)
   have c3:wr.cell? ⟨t,3,none⟩=some (.slice A9 X2.length c9):=hgw.c3
   rw[bump_end] at how
   have QQ:=qH (⟨hgw,how,hon,hsz⟩:_/\_/\_/\_)
   clear hgw how hon hsz hj1 hj2 hlt
   go_wp2_with fail
   go_ret
   obtain⟨hgw,how,hon,hsz⟩:=QQ.out
   obtain⟨hgA,hownA,hOA,hnf9,hft9,hX2,hi2X,hXl,hX2l⟩:=RR.out
   obtain⟨hO6,hfl,hX,hi2,hk2,hk2l,hik,hE,hl5,hEB,ht5⟩:=HQ.out
   obtain⟨hlen,h1,h2,hi,hd,hx1,hxy,hy,hle⟩:=AA.out
   have hpi:x - 1=i:=by omega
   have hil:(cs.take i).length=i:=by simp;omega
   have hyl:(cs.take (y - 1)).length=y - 1:=by simp;omega
   have hfe:X2.take i2++(X2.drop i2).map (fun z=>z+-(d:Int))=feeds (delC cs x y):=by
    have hsx:=feeds_split (cs.take i) (cs.drop i)
    rw[List.take_append_drop,hil,<-hX] at hsx
    have hsy:=feeds_split (cs.take (y - 1)) (cs.drop (y - 1))
    rw[List.take_append_drop,hyl,<-hX] at hsy
    have e1:X.take i2=feeds (cs.take i):=by rw[hsx,hi2];simp
    have e2:X.drop k2=feedsF (1+(y - 1)) (cs.drop (y - 1)):=by
     have:X.drop k2=(feeds (cs.take (y - 1))++feedsF (1+(y - 1)) (cs.drop (y - 1))).drop k2:=by rw[<-hsy]
     rw[this,hk2];simp
    have e3:(X.take i2).length=i2:=by simp;omega
    have e4:X2.take i2=X.take i2:=by rw[hX2,List.take_append_of_le_length (by omega),List.take_of_length_le (by omega)]
    have e5:X2.drop i2=X.drop k2:=by rw[hX2,List.drop_append,List.drop_eq_nil_of_le (by omega),e3];simp
    rw[e4,e5,e1,e2]
    unfold delC
    rw[hpi,feeds_del (cs.take i) ((cs.drop i).take d) (cs.drop (y - 1)),hil]
    have e6:((cs.drop i).take d).length=d:=by simp;omega
    rw[e6,show 1+i+d=1+(y - 1) by omega]
    rfl
   rw[hfe] at how
   have htk2:B5.take i++B5.drop (E+d)=(delC cs x y).map Int.ofNat:=by
    have hbl:(B5.take i).length=i:=by have:=hgw.h1;have:=hgw.h2;simp;omega
    have e1:(cs.map Int.ofNat).take i=B5.take i:=by rw[<-ht5,List.take_append_of_le_length (by omega),List.take_of_length_le (by omega)]
    have e2:(cs.map Int.ofNat).drop (y - 1)=B5.drop (E+d):=by
     rw[<-ht5,List.drop_append,List.drop_eq_nil_of_le (by omega),hbl,List.nil_append,List.drop_drop]
     congr 1;omega
    unfold delC
    rw[hpi,List.map_append,List.map_take,List.map_drop,e1,e2]
   refine⟨rfl,hon.then (Only.refl (fun _=>False) wr) (fun k hk=>hk.elim) |>.then (Only.refl (fun _=>False) wr) (fun k hk=>hk.elim) |>(fun h=>⟨h.os,h.tape,h.output,h.size,fun k hk hs=>h.block k hk (fun e=>e.elim hs (fun e2=>(hft9 k e2).elim hs (fun e3=>by omega)))⟩),g,_,B5,i,E+d,⟨hgw,how,hnf9,htk2,?_,?_⟩,?_⟩
   ·intro c hc
    unfold delC at hc
    rcases List.mem_append.1 hc with hc|hc
    ·exact H.out.cn c (List.mem_of_mem_take hc)
    ·exact H.out.cn c (List.mem_of_mem_drop hc)
   ·unfold delC;simp only[List.length_append,List.length_take,List.length_drop];omega
   ·intro k hk
    rcases hk with rfl|rfl|hk
    ·exact .inl (.inl rfl)
    ·exact .inl (.inr (.inl rfl))
    ·exact hft9 k hk
end
end Go.Proofs.YtkpoodjhjfmfjaaGreatDoor
namespace Go.Proofs.YtkpoodjhjfmfjaaGreatDoor
open Go.RowKit Go.Lib
section
variable {w w' : World} {t g st en : Nat} {fv : Value} {B : List Int} {cs : List Nat}
set_option maxHeartbeats 1000000 in
theorem gspan_no (h:GapR w t g cs) (x y:Int) (hn:¬(1<=x/\x<=y/\y<=cs.length+1)):Calls Tryz.prog 177 #[.pointer (some ⟨t,0,none⟩),.int .i64 x,.int .i64 y] w fun e w'=>e=.returned (.bool false)/\Below w.heap.size w w':=by
 have hl:=h.len
 have HS:=qH (gsize h)
 clear h
 by_cases h1:1<=x
 ·have d1:decide ((1:Int)<=x)=true:=decide_eq_true h1
  by_cases h2:x<=y
  ·have d2:decide (x<=y)=true:=decide_eq_true h2
   obtain⟨n,hnn⟩:∃ n,cs.length+1=n:=⟨_,rfl⟩
   have s1:IntKind.i64.wrap ((cs.length:Int)+1)=(n:Int):=by rw[IntWalk.i64_in _ (by omega)];omega
   have d3:decide (y<=(n:Int))=false:=decide_eq_false (by omega)
   clear h1 h2 hn hnn
   go_enter Tryz.func177,Tryz.ntmps177
   go_wp2_with fail
   refine HS.out.mono ?_
   rintro e w1 ⟨rfl,hb1⟩
   go_wp2_with fail
   go_ret
   exact⟨rfl,hb1⟩
  ·have d2:decide (x<=y)=false:=decide_eq_false h2
   clear hn h1
   go_enter Tryz.func177,Tryz.ntmps177
   go_wp2_with fail
   go_ret
   exact⟨rfl,Below.refl _ _⟩
 ·have d1:decide ((1:Int)<=x)=false:=decide_eq_false h1
  clear hn
  go_enter Tryz.func177,Tryz.ntmps177
  go_wp2_with fail
  go_ret
  exact⟨rfl,Below.refl _ _⟩
set_option maxHeartbeats 1000000 in
theorem gslice_no (h:GapR w t g cs) (x y:Int) (hn:¬(1<=x/\x<=y/\y<=cs.length+1)):Calls Tryz.prog 101 #[.pointer (some ⟨t,0,none⟩),.int .i64 x,.int .i64 y] w fun e w'=>e=.returned (.tuple #[.string ⟨#[]⟩,.int .i64 3])/\Below w.heap.size w w':=by
 have HSP:=qH (gspan_no h x y hn)
 obtain⟨B,cap,st,en,h⟩:=h
 have HN:=qH (gnone h)
 clear h hn
 go_enter Tryz.func101,Tryz.ntmps101
 go_wp2_with fail
 refine HN.out.mono ?_
 rintro e w1 ⟨rfl,rfl⟩
 go_wp2_with fail
 refine HSP.out.mono ?_
 rintro e w1 ⟨rfl,hb1⟩
 go_wp2_with fail
 go_ret2
 exact⟨rfl,hb1⟩
set_option maxHeartbeats 1000000 in
theorem gdelete_no (h:GapX w t g fv B st en cs) (x y:Int) (hn:¬(1<=x/\x<=y/\y<=cs.length+1)) :
  Calls Tryz.prog 153 #[.pointer (some ⟨t,0,none⟩),.int .i64 x,.int .i64 y] w fun e w'=>e=.returned (.int .i64 3)/\Below w.heap.size w w':=by
 have HSP:=qH (gspan_no h.r x y hn)
 have HN:=qH (gnone1 h.gw)
 clear h hn
 go_enter Tryz.func153,Tryz.ntmps153
 go_wp2_with fail
 refine HN.out.mono ?_
 rintro e w1 ⟨rfl,rfl⟩
 go_wp2_with fail
 refine HSP.out.mono ?_
 rintro e w1 ⟨rfl,hb1⟩
 go_wp2_with fail
 go_ret
 exact⟨rfl,hb1⟩
set_option maxHeartbeats 1000000 in
theorem ginsert_range (h:GapX w t g fv B st en cs) (a:Int) (s:ByteArray) (hn:¬(1<=a/\a<=cs.length+1)) :
  Calls Tryz.prog 169 #[.pointer (some ⟨t,0,none⟩),.int .i64 a,.string s] w fun e w'=>e=.returned (.int .i64 3)/\Below w.heap.size w w':=by
 have hle:=h.le
 have HS:=qH (gsize h.r)
 have HN:=qH (gnone1 h.gw)
 clear h
 obtain⟨n,hnn⟩:∃ n,cs.length+1=n:=⟨_,rfl⟩
 have s1:IntKind.i64.wrap ((cs.length:Int)+1)=(n:Int):=by rw[IntWalk.i64_in _ (by omega)];omega
 by_cases h1:a<1
 ·have d1:decide (a<1)=true:=decide_eq_true h1
  clear hn hnn
  go_enter Tryz.func169,Tryz.ntmps169
  go_wp2_with fail
  refine HN.out.mono ?_
  rintro e w1 ⟨rfl,rfl⟩
  go_wp2_with fail
  go_ret
  exact⟨rfl,Below.refl _ _⟩
 ·have d1:decide (a<1)=false:=decide_eq_false h1
  have d2:decide ((n:Int)<a)=true:=decide_eq_true (by omega)
  have d3:((n:Int)<a)=True:=eq_true (by omega)
  clear hn hnn
  go_enter Tryz.func169,Tryz.ntmps169
  go_wp2_with fail
  refine HN.out.mono ?_
  rintro e w1 ⟨rfl,rfl⟩
  go_wp2_with fail
  refine HS.out.mono ?_
  rintro e w1 ⟨rfl,hb1⟩
  go_wp2_with fail
  go_ret
  exact⟨rfl,hb1⟩
set_option maxHeartbeats 2000000 in
theorem ginsert_long {N:Nat} (hT:Tabs N w) (h:GapX w t g fv B st en cs) (s:ByteArray) (hs:s.size<=1000000) (hv:(charsD s.data.toList).isSome=true) (a:Int) (ha:1<=a/\a<=cs.length+1) (hlong:65536<cs.length+(chrs s).length) :
  Calls Tryz.prog 169 #[.pointer (some ⟨t,0,none⟩),.int .i64 a,.string s] w fun e w'=>(∃ q,e=.returned (.int .i64 q))/\Below w.heap.size w w':=by
 have hle:=h.le
 have HL:=rlenG_chars hv
 have hvl:vld s=true:=by rw[vld_chars];exact hv
 have hgs:=fun(w':World) (hb:Below w.heap.size w w')=>gsize (h.r.up hb)
 have HN:=qH (gnone1 h.gw)
 have hcl:=chrs_len s
 obtain⟨n,hnn⟩:∃ n,n=(chrs s).length:=⟨_,rfl⟩
 rw[<-hnn] at HL hlong hcl
 obtain⟨C,hC⟩:∃ C,C=cs.length:=⟨_,rfl⟩
 rw[<-hC] at hgs hle hlong ha
 have d1:decide (a<1)=false:=decide_eq_false (by omega)
 have d4:decide ((C:Int)+1<a)=false:=decide_eq_false (by omega)
 have d5:decide ((65536:Int) - C<(n:Int))=true:=decide_eq_true (by omega)
 have d6:((65536:Int) - C<(n:Int))=True:=eq_true (by omega)
 have s4:IntKind.i64.wrap ((65536:Int) - C)=(65536:Int) - C:=IntWalk.i64_in _ (by omega)
 have s5:IntKind.i64.wrap ((C:Int)+1)=(C:Int)+1:=IntWalk.i64_in _ (by omega)
 have HGS:=qH hgs
 have HT:=qH hT
 have HLQ:=qH HL
 have HVL:=qH hvl
 clear hv h hT hnn hC hgs HL hvl ha hlong hcl hle
 go_enter Tryz.func169,Tryz.ntmps169
 go_wp2_with fail
 refine HN.out.mono ?_
 rintro e w' ⟨rfl,rfl⟩
 clear HN
 go_wp2_with fail
 refine(HGS.out w (Below.refl _ _)).mono ?_
 rintro e w1 ⟨rfl,hb1⟩
 have B1:=qH hb1
 have hV:=valid_any s w1 (by omega) (HT.out.up hb1)
 rw[HVL.out] at hV
 have V:=qH hV
 clear hb1 hV
 go_wp2_with fail
 refine V.out.mono ?_
 rintro e w2 ⟨rfl,hb2⟩
 have B2:=qH (up2 B1.out hb2)
 have hLn:=runesLen s w2 (by omega) (HT.out.up B2.out)
 rw[HLQ.out] at hLn
 have V:=qH hLn
 clear hb2 hLn
 go_wp2_with fail
 refine V.out.mono ?_
 rintro e w3 ⟨rfl,hb3⟩
 have B3:=qH (up2 B2.out hb3)
 clear hb3
 go_wp2_with fail
 refine(HGS.out w3 B3.out).mono ?_
 rintro e w4 ⟨rfl,hb4⟩
 have B4:=qH (up2 B3.out hb4)
 clear hb4 V
 go_wp2_with fail
 go_ret
 exact⟨⟨_,rfl⟩,B4.out⟩
end
end Go.Proofs.YtkpoodjhjfmfjaaGreatDoor
namespace Go.Proofs.YtkpoodjhjfmfjaaGreatDoor
open Go.RowKit Go.Lib
def GapF1 (w:World) (t:Nat) (F:Nat->Prop) (cs:List Nat):Prop:=∃ g fv B st en,GapX w t g fv B st en cs/\∀ k,gapFoot t g fv k->F k
section
variable {w w' : World} {t : Nat} {F F' : Nat → Prop} {cs : List Nat}
theorem GapF1.mono (h:GapF1 w t F cs) (hF:∀ k,F k->F' k):GapF1 w t F' cs:=by
 obtain⟨g,fv,B,st,en,hx,hf⟩:=h;exact⟨g,fv,B,st,en,hx,fun k hk=>hF k (hf k hk)⟩
theorem GapF1.only {S:Nat->Prop} (h:GapF1 w t F cs) (ho:Only S w w') (hd:∀ k,F k->k<w.heap.size->¬ S k):GapF1 w' t F cs:=by
 obtain⟨g,fv,B,st,en,hx,hf⟩:=h;exact⟨g,fv,B,st,en,hx.only ho (fun k hk=>hd k (hf k hk) (hx.foot_lt hk)),hf⟩
theorem GapF1.bound (h:GapF1 w t F cs):GapF1 w t (fun k=>F k/\k<w.heap.size) cs:=by
 obtain⟨g,fv,B,st,en,hx,hf⟩:=h;exact⟨g,fv,B,st,en,hx,fun k hk=>⟨hf k hk,hx.foot_lt hk⟩⟩
theorem GapF1.r (h:GapF1 w t F cs):∃ g,GapR w t g cs:=by
 obtain⟨g,fv,B,st,en,hx,hf⟩:=h;exact⟨g,hx.r⟩
theorem GapF1.le (h:GapF1 w t F cs):cs.length<=65536:=by
 obtain⟨g,fv,B,st,en,hx,hf⟩:=h;exact hx.le
theorem GapF1.cn (h:GapF1 w t F cs):∀ c ∈ cs,isN c:=by
 obtain⟨g,fv,B,st,en,hx,hf⟩:=h;exact hx.cn
theorem GapTo.f {g:Nat} {fv:Value} (h:GapTo w t g fv cs w') (hf:∀ k,gapFoot t g fv k->F k):GapF1 w' t (grow F w.heap.size) cs/\Only F w w':=by
 obtain⟨ho,g',fv',B',st',en',hx,hf'⟩:=h
 exact⟨⟨g',fv',B',st',en',hx,fun k hk=>(hf' k hk).elim (fun e=>.inl (hf k e)) .inr⟩,ho.mono hf⟩
def insX (cs:List Nat) (a:Int) (s:List Nat):List Nat:=if (1<=a/\a<=cs.length+1)/\cs.length+s.length<=65536 then insC cs a.toNat s else cs
def delX (cs:List Nat) (x y:Int):List Nat:=if 1<=x/\x<=y/\y<=cs.length+1 then delC cs x.toNat y.toNat else cs
def subX (cs:List Nat) (x y:Int):List Nat:=if 1<=x/\x<=y/\y<=cs.length+1 then subL cs x.toNat y.toNat else []
theorem gapIns {N:Nat} (hT:Tabs N w) (h:GapF1 w t F cs) (hNf:∀ k,F k->N<=k) (s:ByteArray) (hs:s.size<=262144) (hv:(charsD s.data.toList).isSome=true) (a:Int) :
  Calls Tryz.prog 169 #[.pointer (some ⟨t,0,none⟩),.int .i64 a,.string s] w fun e w'=>(∃ q,e=.returned (.int .i64 q))/\GapF1 w' t (grow F w.heap.size) (insX cs a (chrs s))/\Only F w w':=by
 obtain⟨g,fv,B,st,en,hx,hf⟩:=h
 have hk:∀ w',Below w.heap.size w w'->GapF1 w' t (grow F w.heap.size) cs/\Only F w w':=fun w' hb=>⟨⟨g,fv,B,st,en,hx.up hb,fun k hk=>.inl (hf k hk)⟩,Only.of_below hb⟩
 unfold insX
 by_cases hr:1<=a/\a<=cs.length+1
 ·by_cases hl:cs.length+(chrs s).length<=65536
  ·rw[if_pos ⟨hr,hl⟩]
   obtain⟨p,rfl⟩:∃ p:Nat,a=p:=⟨a.toNat,by omega⟩
   rw[Int.toNat_natCast]
   exact(ginsert_ok hT hx (fun k hk=>hNf k (hf k hk)) s hs hv p (by omega) (by omega) hl).mono fun e w' ⟨he,ht⟩=>⟨⟨_,he⟩,ht.f hf⟩
  ·rw[if_neg (fun e=>hl e.2)]
   exact(ginsert_long hT hx s (by omega) hv a hr (by omega)).mono fun e w' ⟨he,hb⟩=>⟨he,hk w' hb⟩
 ·rw[if_neg (fun e=>hr e.1)]
  exact(ginsert_range hx a s hr).mono fun e w' ⟨he,hb⟩=>⟨⟨_,he⟩,hk w' hb⟩
theorem gapDel (h:GapF1 w t F cs) (x y:Int) :
  Calls Tryz.prog 153 #[.pointer (some ⟨t,0,none⟩),.int .i64 x,.int .i64 y] w fun e w'=>(∃ q,e=.returned (.int .i64 q))/\GapF1 w' t (grow F w.heap.size) (delX cs x y)/\Only F w w':=by
 obtain⟨g,fv,B,st,en,hx,hf⟩:=h
 unfold delX
 by_cases hr:1<=x/\x<=y/\y<=cs.length+1
 ·rw[if_pos hr]
  obtain⟨p,rfl⟩:∃ p:Nat,x=p:=⟨x.toNat,by omega⟩
  obtain⟨q,rfl⟩:∃ p:Nat,y=p:=⟨y.toNat,by omega⟩
  rw[Int.toNat_natCast,Int.toNat_natCast]
  exact(gdelete_ok hx p q (by omega) (by omega) (by omega)).mono fun e w' ⟨he,ht⟩=>⟨⟨_,he⟩,ht.f hf⟩
 ·rw[if_neg hr]
  exact(gdelete_no hx x y hr).mono fun e w' ⟨he,hb⟩=>⟨⟨_,he⟩,⟨g,fv,B,st,en,hx.up hb,fun k hk=>.inl (hf k hk)⟩,Only.of_below hb⟩
theorem gapSl (h:GapF1 w t F cs) (x y:Int) :
  Calls Tryz.prog 101 #[.pointer (some ⟨t,0,none⟩),.int .i64 x,.int .i64 y] w fun e w'=>(∃ q,e=.returned (.tuple #[.string (encS (subX cs x y)),.int .i64 q])/\(q=0 ↔ (1<=x/\x<=y/\y<=cs.length+1)))/\Below w.heap.size w w':=by
 obtain⟨g,hx⟩:=h.r
 unfold subX
 by_cases hr:1<=x/\x<=y/\y<=cs.length+1
 ·rw[if_pos hr]
  obtain⟨p,rfl⟩:∃ p:Nat,x=p:=⟨x.toNat,by omega⟩
  obtain⟨q,rfl⟩:∃ p:Nat,y=p:=⟨y.toNat,by omega⟩
  rw[Int.toNat_natCast,Int.toNat_natCast]
  exact(gslice_ok hx p q (by omega) (by omega) (by omega)).mono fun e w' ⟨he,hb⟩=>⟨⟨0,he,by simp;omega⟩,hb⟩
 ·rw[if_neg hr]
  exact(gslice_no hx x y hr).mono fun e w' ⟨he,hb⟩=>⟨⟨3,he,by simp;omega⟩,hb⟩
theorem gapSize (h:GapF1 w t F cs):Calls Tryz.prog 100 #[.pointer (some ⟨t,0,none⟩)] w fun e w'=>e=.returned (.int .i64 cs.length)/\Below w.heap.size w w':=by
 obtain⟨g,hx⟩:=h.r
 exact gsize hx
end
end Go.Proofs.YtkpoodjhjfmfjaaGreatDoor
namespace Go.Proofs.YtkpoodjhjfmfjaaGreatDoor
open Go.RowKit Go.Lib
def insN (a n x:Nat) (ah:Bool):Nat:=if a<x\/x=a/\ah=true then x+n else x
theorem insF_nat (a n x:Nat) (ah:Bool):insF (a:Int) (n:Int) (x:Int) ah=((insN a n x ah:Nat):Int):=by
 unfold insF insN
 by_cases h:a<x\/x=a/\ah=true
 ·rw[if_pos (by rcases h with h|h;exact .inl (by omega);exact .inr ⟨by omega,h.2⟩),if_pos h];omega
 ·rw[if_neg (by intro h';apply h;rcases h' with h'|h';exact .inl (by omega);exact .inr ⟨by omega,h'.2⟩),if_neg h]
def delF (x y:Int) (p:Int) (_:Bool):Int:=if y<=p then p -(y - x) else if x<p then x else p
def delN (x y p:Nat):Nat:=if y<=p then p -(y - x) else if x<p then x else p
theorem delF_nat (x y p:Nat) (h:x<=y) (ah:Bool):delF (x:Int) (y:Int) (p:Int) ah=((delN x y p:Nat):Int):=by
 unfold delF delN
 by_cases h1:y<=p
 ·rw[if_pos (by omega),if_pos h1];omega
 ·rw[if_neg (by omega),if_neg h1]
  by_cases h2:x<p
  ·rw[if_pos (by omega),if_pos h2]
  ·rw[if_neg (by omega),if_neg h2]
section
variable {w w' : World} {t : Nat} {F : Nat → Prop} {cs : List Nat}
set_option maxHeartbeats 2000000 in
theorem deleted1_ok {k0 k1:Nat} (y x p:Int) (ah:Bool) (hp0:0<=p) (hp1:p<=1000000000000000) (hx0:0<=x) (hxy:x<=y) (hy1:y<=1000000000000000) (h0:w.cell? ⟨k0,0,none⟩=some (.int .i64 y)) (h1:w.cell? ⟨k1,0,none⟩=some (.int .i64 x)) :
  Calls Tryz.prog 233 #[.int .i64 p,.bool ah,pAt k0,pAt k1] w fun r w2=>r=.returned (.int .i64 (delF x y p ah))/\Below w.heap.size w w2:=by
 have s1:IntKind.i64.wrap (y - x)=y - x:=IntWalk.i64_in _ (by omega)
 have s2:IntKind.i64.wrap (p -(y - x))=p -(y - x):=IntWalk.i64_in _ (by omega)
 by_cases h:y<=p
 ·have e:delF x y p ah=p -(y - x):=by unfold delF;rw[if_pos h]
  rw[e]
  have d1:decide (y<=p)=true:=decide_eq_true h
  clear e h hp0 hp1 hx0 hxy hy1
  go_enter Tryz.func233,Tryz.ntmps233
  go_wp2_with fail
  go_ret
  exact⟨rfl,Below.refl _ _⟩
 ·have d1:decide (y<=p)=false:=decide_eq_false h
  by_cases h2:x<p
  ·have e:delF x y p ah=x:=by unfold delF;rw[if_neg h,if_pos h2]
   rw[e]
   have d2:decide (x<p)=true:=decide_eq_true h2
   clear e h h2 hp0 hp1 hx0 hxy hy1 s1 s2
   go_enter Tryz.func233,Tryz.ntmps233
   go_wp2_with fail
   go_ret
   exact⟨rfl,Below.refl _ _⟩
  ·have e:delF x y p ah=p:=by unfold delF;rw[if_neg h,if_neg h2]
   rw[e]
   have d2:decide (x<p)=false:=decide_eq_false h2
   clear e h h2 hp0 hp1 hx0 hxy hy1 s1 s2
   go_enter Tryz.func233,Tryz.ntmps233
   go_wp2_with fail
   go_ret
   exact⟨rfl,Below.refl _ _⟩
structure EditO (w:World) (F:FuncId) (cp:Array Value) (f:Int->Bool->Int) (Z:Nat->Prop):Prop where
 en:Enters F
 run:∀(x:Int) (ah:Bool) (w1:World),0<=x->x<=1000000000000000->Only Z w w1->Calls Tryz.prog F (#[.int .i64 x,.bool ah]++cp) w1 fun r w2=>r=.returned (.int .i64 (f x ah))/\Below w1.heap.size w1 w2
theorem EditO.at_ {F:FuncId} {cp:Array Value} {f:Int->Bool->Int} {Z:Nat->Prop} (h:EditO w F cp f Z) (ho:Only Z w w'):EditAt w' F cp f:=⟨h.en,fun x a w1 h0 h1 hb=>h.run x a w1 h0 h1 (ho.trans (Only.of_below hb))⟩
theorem cell_only {Z:Nat->Prop} {k:Nat} {v:Value} (h:w.cell? ⟨k,0,none⟩=some v) (ho:Only Z w w') (hz:¬ Z k):w'.cell? ⟨k,0,none⟩=some v:=(World.cell?_of_block (w:=w) (a:=⟨k,0,none⟩) (ho.block k (lt_of_cell h) hz)).trans h
theorem deletedO (x y:Int) (hx0:0<=x) (hxy:x<=y) (hy1:y<=1000000000000000) (w:World):Calls Tryz.prog 158 #[.int .i64 x,.int .i64 y] w fun r w'=>
  ∃ cp,r=.returned (.func (.func 233) #[] cp)/\Below w.heap.size w w'/\∀ Z:Nat->Prop,(∀ k,Z k->k<w.heap.size)->EditO w' 233 cp (delF x y) Z:=by
 have HN:=qH (⟨hx0,hxy,hy1⟩:_/\_/\_)
 clear hx0 hxy hy1
 go_enter Tryz.func158,Tryz.ntmps158
 go_wp2_with fail
 go_ret
 obtain⟨a0,a1⟩:=al2 w (.int .i64 x) (.int .i64 y) 3 3
 refine⟨_,rfl,below2 w _ _,fun Z hZ=>⟨enters_mk Tryz.func233 (by kernel_rfl) rfl,fun p ah w1 h0 h1 ho=>?_⟩⟩
 exact deleted1_ok y x p ah h0 h1 HN.out.1 HN.out.2.1 HN.out.2.2 (cell_only a1 ho (fun h=>by have:=hZ _ h;omega)) (cell_only a0 ho (fun h=>by have:=hZ _ h;omega))
set_option maxHeartbeats 1000000 in
theorem insertedO (at_ n:Int) (hn0:0<=n) (hn1:n<=1000000000000000) (w:World):Calls Tryz.prog 173 #[.int .i64 at_,.int .i64 n] w fun r w'=>
  ∃ cp,r=.returned (.func (.func 242) #[] cp)/\Below w.heap.size w w'/\∀ Z:Nat->Prop,(∀ k,Z k->k<w.heap.size)->EditO w' 242 cp (insF at_ n) Z:=by
 have HN0:=qH hn0
 have HN1:=qH hn1
 clear hn0 hn1
 go_enter Tryz.func173,Tryz.ntmps173
 go_wp2_with fail
 go_ret
 obtain⟨a0,a1⟩:=al2 w (.int .i64 at_) (.int .i64 n) 3 3
 refine⟨_,rfl,below2 w _ _,fun Z hZ=>⟨enters_mk Tryz.func242 (by kernel_rfl) rfl,fun x ah w1 h0 h1 ho=>?_⟩⟩
 exact inserted1_ok at_ n x ah h0 h1 HN0.out HN1.out (cell_only a0 ho (fun h=>by have:=hZ _ h;omega)) (cell_only a1 ho (fun h=>by have:=hZ _ h;omega))
end
end Go.Proofs.YtkpoodjhjfmfjaaGreatDoor
namespace Go.Proofs.YtkpoodjhjfmfjaaGreatDoor
open Go.RowKit Go.Lib
structure Exc where
 pt:Nat
 lo:Nat
 hi:Nat
 mark:Nat
 marked:Bool
 tok:Nat
 whole:Bool
abbrev encX (x:Exc):List Value:=[.int .i64 x.pt,.int .i64 x.lo,.int .i64 x.hi,.int .i64 x.mark,.bool x.marked,.int .i64 x.tok,.bool x.whole]
theorem eltX:Elt encX 110 128 7 56 (.agg #[.int .i64 0,.int .i64 0,.int .i64 0,.int .i64 0,.bool false,.int .i64 0,.bool false]):=⟨Tryz.underlying110,by kernel_rfl,rfl,by omega,fun _=>rfl,fun x u hu=>by simp at hu;rcases hu with rfl|rfl|rfl|rfl|rfl|rfl|rfl<;>rfl⟩
def Exc.move (x:Exc) (fn:Nat->Bool->Nat) (bf:Bool):Exc:={ x with pt:=fn x.pt bf,lo:=fn x.lo false,hi:=fn x.hi true,mark:=fn x.mark bf }
def Exc.le (x:Exc) (B:Nat):Prop:=x.pt<=B/\x.lo<=B/\x.hi<=B/\x.mark<=B
section
variable {w w' : World} {b g o : Nat} {S : BS} {F : FuncId} {cp : Array Value} {f : Int → Bool → Int} {X : List Exc} {fn : Nat → Bool → Nat}
theorem movedX_step {i:Nat} {x:Exc} (hx:X[i]?=some x) (bf:Bool):((X.take i).map (fun x=>x.move fn bf)++X.drop i).set i (x.move fn bf)=(X.take (i+1)).map (fun x=>x.move fn bf)++X.drop (i+1):=by
 have hlt:=(List.getElem?_eq_some_iff.1 hx).1
 have hl:((X.take i).map (fun x=>x.move fn bf)).length=i:=by simp;omega
 rw[List.set_append_right _ _ (by omega),hl,Nat.sub_self,List.drop_eq_getElem_cons hlt,List.set_cons_zero,List.take_add_one,hx]
 simp
theorem ROwn.putE {w:World} {g cap n B:Nat} {xs:List Exc} (hn:n=xs.length) (h:ROwn encX 128 7 B w (.slice (some ⟨g,0,none⟩) n cap) xs) {i j:Nat} {x y:Exc} {u:Value} (hi:xs[i]?=some x) (hj:j<7) (he:encX y=(encX x).set j u) :
  ROwn encX 128 7 B (w.setCell ⟨g,i*7+j,none⟩ u) (.slice (some ⟨g,0,none⟩) n cap) (xs.set i y):=by
 subst hn;exact h.put eltX hi hj he
set_option maxRecDepth 100000 in
set_option maxHeartbeats 4000000 in
theorem moves_ok (h:BufB w b S) (hX:ROwn encX 128 7 0 w S.saved X) (hXl:X.length<=1000000) (hXb:∀ k,S.saved.ownBlock=some k->k≠b) (hE:EditO w F cp f (fun k=>k=b\/S.saved.ownBlock=some k)) (hf:∀(x:Nat) a,x<=1000000000000000->f x a=(fn x a:Nat)) (bf:Bool)
  (b0:S.pt<=1000000000000000) (b1:S.lo<=1000000000000000) (b2:S.hi<=1000000000000000) (b3:S.mark<=1000000000000000) (bX:∀ x ∈ X,x.le 1000000000000000) :
  Calls Tryz.prog 157 #[pAt b,.func (.func F) #[] cp,.bool bf] w fun r w'=>r=.returned (.tuple #[])/\Only (fun k=>k=b\/S.saved.ownBlock=some k) w w'/\BufB w' b { S with pt:=fn S.pt bf,lo:=fn S.lo false,hi:=fn S.hi true,mark:=fn S.mark bf } /\
   ROwn encX 128 7 0 w' S.saved (X.map (fun x=>x.move fn bf)):=by
 have HM:=qH (move_ok (g:=b) (o:=0) (hE.at_ (Only.refl _ w)) bf S.pt S.lo S.hi S.mark (h.cell (j:=0) rfl) (h.cell (j:=1) rfl) (h.cell (j:=2) rfl) (h.cell (j:=3) rfl) (h.fz 0) (h.fz 1) (h.fz 2) (h.fz 3) (by omega) (by omega) (by omega) (by omega))
 rw[hf _ bf b0,hf _ false b1,hf _ true b2,hf _ bf b3] at HM
 generalize fn S.pt bf=p' at *
 generalize fn S.lo false=l' at *
 generalize fn S.hi true=h' at *
 generalize fn S.mark bf=m' at *
 have H:=qH h
 have hin:∀(args:Array Value) (w:World),(callFunc F args).run Tryz.prog w=.ok (.enter F args) w:=hE.en
 obtain⟨sv,hsv⟩:∃ sv,sv=S.saved:=⟨_,rfl⟩
 rw[<-hsv] at hX hXb hE
 rw[<-hsv]
 have HE:=qH hE
 have HX:=qH (⟨hX,hXl,hXb,hf,bX,hsv⟩:_/\_/\_/\_/\_/\_)
 clear h hX hXl hXb hf bX hE b0 b1 b2 b3
 go_enter Tryz.func157,Tryz.ntmps157
 go_wp2_with fail
 refine HM.out.mono ?_
 rintro r wx ⟨rfl,w1,hb1,rfl⟩
 have h4:BufB ((((w1.setCell ⟨b,0,none⟩ (.int .i64 (p':Int))).setCell ⟨b,0+1,none⟩ (.int .i64 (l':Int))).setCell ⟨b,0+2,none⟩ (.int .i64 (h':Int))).setCell ⟨b,0+3,none⟩ (.int .i64 (m':Int))) b { S with pt:=p',lo:=l',hi:=h',mark:=m' }:=
  ((((H.out.up hb1).set (j:=0) (by simp) (.int .i64 (p':Int))).set (j:=1) (by simp) (.int .i64 (l':Int))).set (j:=2) (by simp) (.int .i64 (h':Int))).set (j:=3) (by simp) (.int .i64 (m':Int))
 have o4:Only (fun k=>k=b) w ((((w1.setCell ⟨b,0,none⟩ (.int .i64 (p':Int))).setCell ⟨b,0+1,none⟩ (.int .i64 (l':Int))).setCell ⟨b,0+2,none⟩ (.int .i64 (h':Int))).setCell ⟨b,0+3,none⟩ (.int .i64 (m':Int))):=
  ((((Only.of_below (S:=fun k=>k=b) hb1).setCell (p:=⟨b,0,none⟩) rfl _).setCell (p:=⟨b,0+1,none⟩) rfl _).setCell (p:=⟨b,0+2,none⟩) rfl _).setCell (p:=⟨b,0+3,none⟩) rfl _
 generalize (((w1.setCell ⟨b,0,none⟩ (.int .i64 (p':Int))).setCell ⟨b,0+1,none⟩ (.int .i64 (l':Int))).setCell ⟨b,0+2,none⟩ (.int .i64 (h':Int))).setCell ⟨b,0+3,none⟩ (.int .i64 (m':Int))=W at *
 obtain⟨A,cap,hA,_,_,_⟩:=HX.out.1.shape eltX
 have c17:W.cell? ⟨b,17,none⟩=some (.slice A X.length cap):=by rw[<-hA,HX.out.2.2.2.2.2];exact h4.cell (j:=17) rfl
 have H4:=qH h4
 have O4:=qH o4
 have HA:=qH hA
 clear h4 HM o4 hA
 go_wp2_with fail
 go_loopw [18,6] (fun va _ wr=>∃ i:Nat,i<=X.length/\va=.int .i64 i/\ROwn encX 128 7 0 wr sv ((X.take i).map (fun x=>x.move fn bf)++X.drop i)/\Only (fun k=>sv.ownBlock=some k) W wr) (fun va _ _=>X.length -(intOf va).toNat)
 case atStart=>exact⟨0,by omega,rfl,by simpa using HX.out.1.kept (fun k hk=>O4.out.block k (HX.out.1.lt hk) (HX.out.2.2.1 k hk)),Only.refl _ _⟩
 case round=>
  obtain⟨i,hi,rfl,hr,hor⟩:=hrel
  obtain⟨wz,rfl⟩:∃ x,x=wr:=⟨_,rfl⟩
  by_cases hlt:i<X.length
  ·obtain⟨x,hx⟩:∃ x,X[i]?=some x:=⟨_,List.getElem?_eq_getElem hlt⟩
   have hlen:((X.take i).map (fun x=>x.move fn bf)++X.drop i).length=X.length:=by simp;omega
   have hxi:((X.take i).map (fun x=>x.move fn bf)++X.drop i)[i]?=some x:=by
    rw[List.getElem?_append_right (by simp;omega),List.length_map,List.length_take,Nat.min_eq_left (by omega),Nat.sub_self,List.getElem?_drop];simpa using hx
   have hstep:=movedX_step (fn:=fn) hx bf
   generalize (X.take i).map (fun x=>x.move fn bf)++X.drop i=Y at *
   obtain⟨gx,cx,hsx,_,_,_,hgx,hfz,hat⟩:=hr.lies eltX (by omega)
   have hA:=HA.out
   rw[hsx] at hA
   rw[hlen] at hA
   obtain⟨rfl,_,rfl⟩:=Value.slice.inj hA
   have hxl:=HX.out.2.2.2.2.1 x (List.mem_of_getElem? hx)
   have hfx:=HX.out.2.2.2.1
   have hon:Only (fun k=>k=b\/sv.ownBlock=some k) w wz:=(O4.out.mono (fun k e=>.inl e)).trans (hor.mono (fun k e=>.inr e))
   have hm:=move_ok (g:=gx) (o:=i*7) (HE.out.at_ hon) bf x.pt x.lo x.hi x.mark (by simpa using hat i x 0 _ hxi rfl) (hat i x 1 _ hxi rfl) (hat i x 2 _ hxi rfl) (hat i x 3 _ hxi rfl) (by simpa using hfz (i*7) (by omega)) (hfz (i*7+1) (by omega)) (hfz (i*7+2) (by omega)) (hfz (i*7+3) (by omega)) (by have:=hxl.1;omega) (by have:=hxl.2.1;omega) (by have:=hxl.2.2.1;omega) (by have:=hxl.2.2.2;omega)
   rw[hfx _ bf hxl.1,hfx _ false hxl.2.1,hfx _ true hxl.2.2.1,hfx _ bf hxl.2.2.2] at hm
   have HM:=qH hm
   have hbsv:sv.ownBlock≠some b:=fun e=>HX.out.2.2.1 b e rfl
   have c17:wz.cell? ⟨b,17,none⟩=some (.slice (some ⟨gx,0,none⟩) X.length cx):=by
    have:=(H4.out.only hor hbsv).cell (j:=17) rfl
    rw[this,<-HX.out.2.2.2.2.2,hsx,hlen];rfl
   have s2:IntKind.i64.wrap ((i:Int)+1)=((i+1:Nat):Int):=by rw[IntWalk.i64_in _ (by have:=HX.out.2.1;omega)];omega
   have d1:(i:Int)<X.length:=by omega
   have HR:=qH (⟨hr,hor,hsx,hlen,hxi,hstep⟩:_/\_/\_/\_/\_/\_)
   clear hr hor hsx hlen hxi hstep hm hat hfz hon hxl hfx hx hA
   go_wp2_with fail
   refine HM.out.mono ?_
   rintro r wy ⟨rfl,w5,hb5,rfl⟩
   go_wp2_with fail
   go_roundw
   case rel=>
    obtain⟨hr,hor,hsx,hlen,hxi,hstep⟩:=HR.out
    refine⟨i+1,by omega,by first|rfl|go_num,?_,?_⟩
    ·have r0:=hr.up hb5
     rw[hsx] at r0
     rw[<-hstep,hsx]
     have hil:i<Y.length:=by omega
     have r1:=ROwn.putE rfl r0 (j:=0) (y:={ x with pt:=fn x.pt bf }) (u:=.int .i64 (fn x.pt bf:Nat)) hxi (by omega) rfl
     have r2:=ROwn.putE (by simp) r1 (i:=i) (j:=1) (x:={ x with pt:=fn x.pt bf }) (y:={ x with pt:=fn x.pt bf,lo:=fn x.lo false }) (u:=.int .i64 (fn x.lo false:Nat)) (by rw[List.getElem?_set_self hil]) (by omega) rfl
     rw[List.set_set] at r2
     have r3:=ROwn.putE (by simp) r2 (i:=i) (j:=2) (x:={ x with pt:=fn x.pt bf,lo:=fn x.lo false }) (y:={ x with pt:=fn x.pt bf,lo:=fn x.lo false,hi:=fn x.hi true }) (u:=.int .i64 (fn x.hi true:Nat)) (by rw[List.getElem?_set_self hil]) (by omega) rfl
     rw[List.set_set] at r3
     have r4:=ROwn.putE (by simp) r3 (i:=i) (j:=3) (x:={ x with pt:=fn x.pt bf,lo:=fn x.lo false,hi:=fn x.hi true }) (y:=x.move fn bf) (u:=.int .i64 (fn x.mark bf:Nat)) (by rw[List.getElem?_set_self hil]) (by omega) rfl
     rw[List.set_set] at r4
     exact r4
    ·have hg:sv.ownBlock=some gx:=by rw[hsx];rfl
     exact((((hor.trans (Only.of_below hb5)).setCell (p:=⟨gx,i*7,none⟩) hg _).setCell (p:=⟨gx,i*7+1,none⟩) hg _).setCell (p:=⟨gx,i*7+2,none⟩) hg _).setCell (p:=⟨gx,i*7+3,none⟩) hg _
   case measure=>simp[intOf];omega
  ·obtain rfl:i=X.length:=by omega
   have HR:=qH (⟨hr,hor⟩:_/\_)
   clear hr hor hlt hi
   go_wp2_with fail
   go_end0
   obtain⟨hr,hor⟩:=HR.out
   rw[List.take_length,List.drop_length,List.append_nil] at hr
   exact⟨rfl,(O4.out.mono (fun k e=>.inl e)).trans (hor.mono (fun k e=>.inr e)),by rw[HX.out.2.2.2.2.2];exact H4.out.only hor (fun e=>HX.out.2.2.1 b e rfl),hr⟩
end
end Go.Proofs.YtkpoodjhjfmfjaaGreatDoor
namespace Go.Proofs.YtkpoodjhjfmfjaaGreatDoor
open Go.RowKit Go.Lib
abbrev cleanC:Chg:=⟨6,0,0,0,0,⟨#[]⟩,0,0,false⟩
abbrev pointC (p:Nat):Chg:=⟨4,p,0,0,0,⟨#[]⟩,0,0,false⟩
theorem cleanC_ok:ChgOk cleanC:=⟨by simp,by simp,by simp,by simp,by simp⟩
theorem pointC_ok {p:Nat} (h1:1<=p) (h2:p<=1000000000):ChgOk (pointC p):=⟨by simp,fun _=>⟨by simp;omega,by simp;omega⟩,by simp,by simp,by simp⟩
def noteL (S:BS) (L:Lg) (c:Chg):Lg:=if S.logs=true then (if S.empty=true then ((if S.tick=S.clean then L.add cleanC else L).add (pointC S.pt)).add c else L.add c) else L
def NoteP (w:World) (b:Nat) (S:BS) (F:Nat->Prop) (L:Lg) (e:Ending) (w':World):Prop:=
 e=.returned (.tuple #[])/\Only (fun k=>k=b\/F k) w w'/\BufB w' b { S with empty:=false }/\LogT w' S.l (grow F w.heap.size) L
section
variable {w w' : World} {b l : Nat} {S : BS} {F : Nat → Prop} {L : Lg}
set_option maxRecDepth 100000 in
set_option maxHeartbeats 4000000 in
theorem gnote_open {N:Nat} {c:Chg} (hT:Tabs N w) (hR:Rules N w) (h:BufB w b S) (hlg:S.logs=true) (hem:S.empty=false) (hpt:1<=S.pt/\S.pt<=1000000000) (hNF:∀ k,F k->N<=k) (hNb:N<=b) (hbF:¬ F b) (hFb:∀ k,F k->k<w.heap.size)
  (hL:LogT w S.l F L) (hok:ChgOk c) :
  Calls Tryz.prog 152 #[pAt b,chgV c] w (NoteP w b S F (L.add c)):=by
 obtain⟨pt,lo,hi,mark,marked,ro,fo,tick,clean,t,m,p,o,l,logs,empty,lock,saved,tokens⟩:=S
 simp only at hlg hem hpt hL ⊢
 subst hlg hem
 have c14:=h.cell (j:=14) rfl
 have c15:=h.cell (j:=15) rfl
 have c13:=h.cell (j:=13) rfl
 obtain⟨w0,hw0⟩:∃ w0,w=w0:=⟨_,rfl⟩
 have h0':BufB w0 b ⟨pt,lo,hi,mark,marked,ro,fo,tick,clean,t,m,p,o,l,true,false,lock,saved,tokens⟩:=hw0▸h
 have ho0:Only (fun k=>k=b) w w0:=hw0▸Only.refl _ w
 have hsz0:w0.heap.size=w.heap.size:=by rw[<-hw0]
 have hL0:LogT w0 l F L:=hL.only ho0 (fun k hk _ e=>hbF (e▸hk))
 have hR0:Rules N w0:=hR.only ho0 (fun k hk=>hk▸hNb)
 have hT0:Tabs N w0:=hT.only ho0 (fun k hk=>hk▸hNb)
 have hb1:=below1 w0 (.cells (chgA c) 121)
 have hk:=Blk.made w0 121 (chgA c)
 have hlw:=hL.lt.1
 have hlF:=hL.lt.2
 have hbw:=h.lt
 have hbw0:b<w0.heap.size:=h0'.lt
 have hbl:b≠l:=fun e=>hbF (e▸hlF)
 rw[hsz0] at hk
 have d13:=h0'.cell (j:=13) rfl
 have d7:w0.cell? ⟨b,7,none⟩=some (.int .i64 (tick:Int)):=h0'.cell (j:=7) rfl
 have d8:w0.cell? ⟨b,8,none⟩=some (.int .i64 (clean:Int)):=h0'.cell (j:=8) rfl
 have hs1:w.heap.size<(w0.alloc (.cells (chgA c) 121)).heap.size:=by simp[hsz0]
 have hOF:=ho0.trans (Only.of_below hb1)
 have H1:=qH (h0'.up hb1)
 have R1:=qH (hR0.up hb1)
 have T1:=qH (hT0.up hb1)
 have L1:=qH (hL0.up hb1)
 have K1:=qH hk
 have O1:=qH hOF
 have NL:=qH (⟨hNF,hNb,hbF,hlF,hpt,hok,hFb⟩:_/\_/\_/\_/\_/\_/\_)
 have HBL:=qH hbl
 have S1:=qH (⟨hs1,hbw,hlw⟩:_/\_/\_)
 have h0W:=qH h0'
 obtain⟨ck,ca,cb,cid,cnm,ctx,cvk,cvn,chd⟩:=c
 clear h hR hT hL hk hb1 h0' hL0 hR0 hT0 ho0 hNF hNb hbF hlF hpt hok hFb hs1 hsz0 hOF
 go_enter Tryz.func152,Tryz.ntmps152
 subst hw0
 have hw0:True:=trivial
 go_wp2_with fail
 generalize w.alloc (.cells (chgA ⟨ck,ca,cb,cid,cnm,ctx,cvk,cvn,chd⟩) 121)=W at *
 have hsW:w.heap.size<W.heap.size:=S1.out.1
 have hbT:¬ grow F W.heap.size b:=fun h=>h.elim NL.out.2.2.1 (fun e=>by have:=S1.out.2.1;omega)
 have hkT:¬ grow F W.heap.size w.heap.size:=fun h=>h.elim (fun e=>by have:=NL.out.2.2.2.2.2.2 _ e;omega) (fun e=>by omega)
 have hTN:∀ k,grow F W.heap.size k->N<=k:=fun k hk=>hk.elim (NL.out.1 k) (fun e=>by have:=NL.out.2.1;have:=S1.out.2.1;omega)
 have HTT:=qH (⟨hbT,hkT,hTN⟩:_/\_/\_)
 clear hbT hkT hTN hsW
 clear c14 c15 c13 d13 d7 d8
 have HA:=qH (show BufB W b _ from H1.out.up (Below.refl W.heap.size W))
 have RA:=qH (show Rules N W from R1.out.up (Below.refl W.heap.size W))
 have TA:=qH (show Tabs N W from T1.out.up (Below.refl W.heap.size W))
 have KA:=qH (show Blk W w.heap.size 121 _ from K1.out.up (Below.refl W.heap.size W))
 have LA:=qH (show LogT W l F L from L1.out.up (Below.refl W.heap.size W))
 have OA:=qH (show Only (grow F W.heap.size) W W from Only.of_below (Below.refl W.heap.size W))
 have QA:Hid (LogT W l (grow F W.heap.size) L):=qH (LA.out.mono (fun k hk=>.inl hk))
 clear H1 R1 T1 K1 L1 LA
 have hd:=(Below.refl (W).heap.size (W)).drew
 have hbT:=HTT.out.1
 have hkT:=HTT.out.2.1
 have T13:∀ x:OnW (grow F W.heap.size) (W),x.w.cell? ⟨b,13,none⟩=some (pAt l):=fun x=>(HA.out.only x.on hbT).cell (j:=13) rfl
 have CB:∀ x:OnW (grow F W.heap.size) (W),Blk x.w w.heap.size 121 _:=fun x=>KA.out.only x.on hkT
 have b0:=fun x=>(CB x).cell (j:=0) rfl
 have b1:=fun x=>(CB x).cell (j:=1) rfl
 have b2:=fun x=>(CB x).cell (j:=2) rfl
 have b3:=fun x=>(CB x).cell (j:=3) rfl
 have b4:=fun x=>(CB x).cell (j:=4) rfl
 have b5:=fun x=>(CB x).cell (j:=5) rfl
 have b6:=fun x=>(CB x).cell (j:=6) rfl
 have b7:=fun x=>(CB x).cell (j:=7) rfl
 have b8:=fun x=>(CB x).cell (j:=8) rfl
 clear CB hbT hkT
 refine wp_region_mixO (grow F W.heap.size) 6 (.one [0,1,2,3,4] 5 (.done [])) (by kernel_rfl) (fun c d v a w h=>by cases d<;>exact h) (by kernel_rfl) ?_
 simp only[wpMixT,pk_nil,pk_cons,pushAt_zero,pushAt_succ,List.drop_succ_cons,List.drop_zero]
 repeat (go_big_quiet_step (fail))
 refine wpQuiet_nil ?_
 clear T13 b0 b1 b2 b3 b4 b5 b6 b7 b8
 go_wp2_with fail
 have hqL:=QA.out
 refine(tadd (hqL.up hd) NL.out.2.2.2.2.2.1 (TA.out.up hd) (RA.out.up hd)).mono ?_
 rintro r w2 ⟨rfl,⟨hq2,ho2⟩⟩
 have hs2:=ho2.size
 have ho2:Only (grow F W.heap.size) (W) w2:=((Only.refl _ (W)).drew).trans ho2
 go_wp2_with fail
 refine thenQ_normal ⟨⟨⟨_,ho2⟩,rfl⟩,?_⟩
 refine wpQuiet_nil ?_
 go_wp2_with fail
 go_end0
 have hsW:w.heap.size<W.heap.size:=S1.out.1
 have hOO:Only (fun k=>k=b\/F k) w w2:=(O1.out.mono (fun k hk=>.inl hk)).then (OA.out.trans ho2) (fun k hk hlt=>hk.elim .inr (fun e=>by omega))
 exact⟨rfl,hOO,HA.out.only ho2 HTT.out.1,(hq2.mono (grow_two (show W.heap.size<=(W).drew.heap.size from OA.out.size))).mono (grow_mono (F':=F) (m:=w.heap.size) (fun k hk=>hk) (by omega))⟩
set_option maxRecDepth 100000 in
set_option maxHeartbeats 4000000 in
theorem gnote_first {N:Nat} {c:Chg} (hT:Tabs N w) (hR:Rules N w) (h:BufB w b S) (hlg:S.logs=true) (hem:S.empty=true) (htk:S.tick=S.clean) (hpt:1<=S.pt/\S.pt<=1000000000) (hNF:∀ k,F k->N<=k) (hNb:N<=b) (hbF:¬ F b) (hFb:∀ k,F k->k<w.heap.size)
  (hL:LogT w S.l F L) (hok:ChgOk c) :
  Calls Tryz.prog 152 #[pAt b,chgV c] w (NoteP w b S F (((L.add cleanC).add (pointC S.pt)).add c)):=by
 obtain⟨pt,lo,hi,mark,marked,ro,fo,tick,clean,t,m,p,o,l,logs,empty,lock,saved,tokens⟩:=S
 simp only at hlg hem hpt hL ⊢ htk
 subst hlg hem
 subst htk
 have c14:=h.cell (j:=14) rfl
 have c15:=h.cell (j:=15) rfl
 have c13:=h.cell (j:=13) rfl
 have f15:=h.fz 15
 have c7:w.cell? ⟨b,7,none⟩=some (.int .i64 (tick:Int)):=h.cell (j:=7) rfl
 have c8:w.cell? ⟨b,8,none⟩=some (.int .i64 (tick:Int)):=h.cell (j:=8) rfl
 obtain⟨w0,hw0⟩:∃ w0,w.setCell ⟨b,15,none⟩ (.bool false)=w0:=⟨_,rfl⟩
 have h0':BufB w0 b ⟨pt,lo,hi,mark,marked,ro,fo,tick,tick,t,m,p,o,l,true,false,lock,saved,tokens⟩:=hw0▸h.set (j:=15) (by simp) (.bool false)
 have ho0:Only (fun k=>k=b) w w0:=hw0▸Only.setCell (S:=fun k=>k=b) (p:=⟨b,15,none⟩) (Only.refl _ w) rfl _
 have hsz0:w0.heap.size=w.heap.size:=by rw[<-hw0];simp
 have hL0:LogT w0 l F L:=hL.only ho0 (fun k hk _ e=>hbF (e▸hk))
 have hR0:Rules N w0:=hR.only ho0 (fun k hk=>hk▸hNb)
 have hT0:Tabs N w0:=hT.only ho0 (fun k hk=>hk▸hNb)
 have hb1:=below1 w0 (.cells (chgA c) 121)
 have hk:=Blk.made w0 121 (chgA c)
 have hlw:=hL.lt.1
 have hlF:=hL.lt.2
 have hbw:=h.lt
 have hbw0:b<w0.heap.size:=h0'.lt
 have hbl:b≠l:=fun e=>hbF (e▸hlF)
 rw[hsz0] at hk
 have d13:=h0'.cell (j:=13) rfl
 have d7:w0.cell? ⟨b,7,none⟩=some (.int .i64 (tick:Int)):=h0'.cell (j:=7) rfl
 have d8:w0.cell? ⟨b,8,none⟩=some (.int .i64 (tick:Int)):=h0'.cell (j:=8) rfl
 have hs1:w.heap.size<(w0.alloc (.cells (chgA c) 121)).heap.size:=by simp[hsz0]
 have hOF:=ho0.trans (Only.of_below hb1)
 have H1:=qH (h0'.up hb1)
 have R1:=qH (hR0.up hb1)
 have T1:=qH (hT0.up hb1)
 have L1:=qH (hL0.up hb1)
 have K1:=qH hk
 have O1:=qH hOF
 have NL:=qH (⟨hNF,hNb,hbF,hlF,hpt,hok,hFb⟩:_/\_/\_/\_/\_/\_/\_)
 have HBL:=qH hbl
 have S1:=qH (⟨hs1,hbw,hlw⟩:_/\_/\_)
 have h0W:=qH h0'
 obtain⟨ck,ca,cb,cid,cnm,ctx,cvk,cvn,chd⟩:=c
 clear h hR hT hL hk hb1 h0' hL0 hR0 hT0 ho0 hNF hNb hbF hlF hpt hok hFb hs1 hsz0 hOF
 go_enter Tryz.func152,Tryz.ntmps152
 go_wp2_with fail
 go_region
 go_wp2_with fail
 generalize w0.alloc (.cells (chgA ⟨ck,ca,cb,cid,cnm,ctx,cvk,cvn,chd⟩) 121)=W at *
 have hsW:w.heap.size<W.heap.size:=S1.out.1
 have hbT:¬ grow F W.heap.size b:=fun h=>h.elim NL.out.2.2.1 (fun e=>by have:=S1.out.2.1;omega)
 have hkT:¬ grow F W.heap.size w.heap.size:=fun h=>h.elim (fun e=>by have:=NL.out.2.2.2.2.2.2 _ e;omega) (fun e=>by omega)
 have hTN:∀ k,grow F W.heap.size k->N<=k:=fun k hk=>hk.elim (NL.out.1 k) (fun e=>by have:=NL.out.2.1;have:=S1.out.2.1;omega)
 have HTT:=qH (⟨hbT,hkT,hTN⟩:_/\_/\_)
 clear hbT hkT hTN hsW
 clear c14 c15 f15 c7 c8 c13 hw0 d7 d8 d13
 have HA:=qH (show BufB W.drew b _ from H1.out.up (Below.refl W.heap.size W).drew)
 have RA:=qH (show Rules N W.drew from R1.out.up (Below.refl W.heap.size W).drew)
 have TA:=qH (show Tabs N W.drew from T1.out.up (Below.refl W.heap.size W).drew)
 have KA:=qH (show Blk W.drew w.heap.size 121 _ from K1.out.up (Below.refl W.heap.size W).drew)
 have LA:=qH (show LogT W.drew l F L from L1.out.up (Below.refl W.heap.size W).drew)
 have OA:=qH (show Only (grow F W.heap.size) W W.drew from Only.of_below (Below.refl W.heap.size W).drew)
 have QA:Hid (LogT W.drew l (grow F W.heap.size) L):=qH (LA.out.mono (fun k hk=>.inl hk))
 clear H1 R1 T1 K1 L1 LA
 have hqL:=QA.out
 refine(tadd hqL cleanC_ok TA.out RA.out).mono ?_
 rintro r w2 ⟨rfl,⟨hq2,ho2⟩⟩
 have ho2':Only (grow F W.heap.size) W w2:=(OA.out).trans ho2
 have hs2:=ho2.size
 have H2:=qH (HA.out.only ho2 HTT.out.1)
 have K2:=qH (KA.out.only ho2 HTT.out.2.1)
 have R2:=qH (RA.out.only ho2 HTT.out.2.2)
 have T2:=qH (TA.out.only ho2 HTT.out.2.2)
 have O2:=qH ho2'
 have Q2:Hid (LogT w2 l (grow F W.heap.size) (L.add cleanC)):=qH (hq2.mono (grow_two OA.out.size))
 clear HA KA RA TA OA QA hqL hq2 ho2 ho2' hs2
 have HA:=qH H2.out
 have KA:=qH K2.out
 have RA:=qH R2.out
 have TA:=qH T2.out
 have OA:=qH O2.out
 have QA:=qH Q2.out
 clear H2 K2 R2 T2 O2 Q2
 go_wp2_with fail
 have hd:=(Below.refl (w2).heap.size (w2)).drew
 have hbT:=HTT.out.1
 have hkT:=HTT.out.2.1
 have T13:∀ x:OnW (grow F W.heap.size) (w2),x.w.cell? ⟨b,13,none⟩=some (pAt l):=fun x=>(HA.out.only x.on hbT).cell (j:=13) rfl
 have T0:∀ x:OnW (grow F W.heap.size) (w2),x.w.cell? ⟨b,0,none⟩=some (.int .i64 (pt:Int)):=fun x=>(HA.out.only x.on hbT).cell (j:=0) rfl
 clear hbT hkT
 refine wp_region_mixO (grow F W.heap.size) 11 (.one [0,1,2,3,4,5,6,7,8,9] 10 (.done [])) (by kernel_rfl) (fun c d v a w h=>by cases d<;>exact h) (by kernel_rfl) ?_
 simp only[wpMixT,pk_nil,pk_cons,pushAt_zero,pushAt_succ,List.drop_succ_cons,List.drop_zero]
 repeat (go_big_quiet_step (fail))
 refine wpQuiet_nil ?_
 clear T0 T13
 go_wp2_with fail
 have hqL:=QA.out
 refine(tadd (hqL.up hd) (pointC_ok NL.out.2.2.2.2.1.1 NL.out.2.2.2.2.1.2) (TA.out.up hd) (RA.out.up hd)).mono ?_
 rintro r w3 ⟨rfl,⟨hq2,ho2⟩⟩
 have hs2:=ho2.size
 have ho2:Only (grow F W.heap.size) (w2) w3:=((Only.refl _ (w2)).drew).trans ho2
 go_wp2_with fail
 refine thenQ_normal ⟨⟨⟨_,ho2⟩,rfl⟩,?_⟩
 refine wpQuiet_nil ?_
 have ho2':Only (grow F W.heap.size) W w3:=(OA.out).trans ho2
 have H2:=qH (HA.out.only ho2 HTT.out.1)
 have K2:=qH (KA.out.only ho2 HTT.out.2.1)
 have R2:=qH (RA.out.only ho2 HTT.out.2.2)
 have T2:=qH (TA.out.only ho2 HTT.out.2.2)
 have O2:=qH ho2'
 have Q2:Hid (LogT w3 l (grow F W.heap.size) ((L.add cleanC).add (pointC pt))):=qH (hq2.mono (grow_two (show W.heap.size<=(w2).drew.heap.size from OA.out.size)))
 clear HA KA RA TA OA QA hqL hq2 ho2 ho2' hs2 hd
 have HA:=qH H2.out
 have KA:=qH K2.out
 have RA:=qH R2.out
 have TA:=qH T2.out
 have OA:=qH O2.out
 have QA:=qH Q2.out
 clear H2 K2 R2 T2 O2 Q2
 go_wp2_with fail
 have hd:=(Below.refl (w3).heap.size (w3)).drew
 have hbT:=HTT.out.1
 have hkT:=HTT.out.2.1
 have T13:∀ x:OnW (grow F W.heap.size) (w3),x.w.cell? ⟨b,13,none⟩=some (pAt l):=fun x=>(HA.out.only x.on hbT).cell (j:=13) rfl
 have CB:∀ x:OnW (grow F W.heap.size) (w3),Blk x.w w.heap.size 121 _:=fun x=>KA.out.only x.on hkT
 have b0:=fun x=>(CB x).cell (j:=0) rfl
 have b1:=fun x=>(CB x).cell (j:=1) rfl
 have b2:=fun x=>(CB x).cell (j:=2) rfl
 have b3:=fun x=>(CB x).cell (j:=3) rfl
 have b4:=fun x=>(CB x).cell (j:=4) rfl
 have b5:=fun x=>(CB x).cell (j:=5) rfl
 have b6:=fun x=>(CB x).cell (j:=6) rfl
 have b7:=fun x=>(CB x).cell (j:=7) rfl
 have b8:=fun x=>(CB x).cell (j:=8) rfl
 clear CB hbT hkT
 refine wp_region_mixO (grow F W.heap.size) 6 (.one [0,1,2,3,4] 5 (.done [])) (by kernel_rfl) (fun c d v a w h=>by cases d<;>exact h) (by kernel_rfl) ?_
 simp only[wpMixT,pk_nil,pk_cons,pushAt_zero,pushAt_succ,List.drop_succ_cons,List.drop_zero]
 repeat (go_big_quiet_step (fail))
 refine wpQuiet_nil ?_
 clear T13 b0 b1 b2 b3 b4 b5 b6 b7 b8
 go_wp2_with fail
 have hqL:=QA.out
 refine(tadd (hqL.up hd) NL.out.2.2.2.2.2.1 (TA.out.up hd) (RA.out.up hd)).mono ?_
 rintro r w4 ⟨rfl,⟨hq2,ho2⟩⟩
 have hs2:=ho2.size
 have ho2:Only (grow F W.heap.size) (w3) w4:=((Only.refl _ (w3)).drew).trans ho2
 go_wp2_with fail
 refine thenQ_normal ⟨⟨⟨_,ho2⟩,rfl⟩,?_⟩
 refine wpQuiet_nil ?_
 go_wp2_with fail
 go_end0
 have hsW:w.heap.size<W.heap.size:=S1.out.1
 have hOO:Only (fun k=>k=b\/F k) w w4:=(O1.out.mono (fun k hk=>.inl hk)).then (OA.out.trans ho2) (fun k hk hlt=>hk.elim .inr (fun e=>by omega))
 exact⟨rfl,hOO,HA.out.only ho2 HTT.out.1,(hq2.mono (grow_two (show W.heap.size<=(w3).drew.heap.size from OA.out.size))).mono (grow_mono (F':=F) (m:=w.heap.size) (fun k hk=>hk) (by omega))⟩
set_option maxRecDepth 100000 in
set_option maxHeartbeats 4000000 in
theorem gnote_more {N:Nat} {c:Chg} (hT:Tabs N w) (hR:Rules N w) (h:BufB w b S) (hlg:S.logs=true) (hem:S.empty=true) (htk:S.tick≠S.clean) (hpt:1<=S.pt/\S.pt<=1000000000) (hNF:∀ k,F k->N<=k) (hNb:N<=b) (hbF:¬ F b) (hFb:∀ k,F k->k<w.heap.size)
  (hL:LogT w S.l F L) (hok:ChgOk c) :
  Calls Tryz.prog 152 #[pAt b,chgV c] w (NoteP w b S F ((L.add (pointC S.pt)).add c)):=by
 obtain⟨pt,lo,hi,mark,marked,ro,fo,tick,clean,t,m,p,o,l,logs,empty,lock,saved,tokens⟩:=S
 simp only at hlg hem hpt hL ⊢ htk
 subst hlg hem
 have c14:=h.cell (j:=14) rfl
 have c15:=h.cell (j:=15) rfl
 have c13:=h.cell (j:=13) rfl
 have f15:=h.fz 15
 have c7:w.cell? ⟨b,7,none⟩=some (.int .i64 (tick:Int)):=h.cell (j:=7) rfl
 have c8:w.cell? ⟨b,8,none⟩=some (.int .i64 (clean:Int)):=h.cell (j:=8) rfl
 have e1:((tick:Int) ==(clean:Int))=false:=by simp;omega
 have e2:(tick=clean)=False:=eq_false htk
 have e3:((tick:Int)=(clean:Int))=False:=eq_false (by omega)
 clear htk
 obtain⟨w0,hw0⟩:∃ w0,w.setCell ⟨b,15,none⟩ (.bool false)=w0:=⟨_,rfl⟩
 have h0':BufB w0 b ⟨pt,lo,hi,mark,marked,ro,fo,tick,clean,t,m,p,o,l,true,false,lock,saved,tokens⟩:=hw0▸h.set (j:=15) (by simp) (.bool false)
 have ho0:Only (fun k=>k=b) w w0:=hw0▸Only.setCell (S:=fun k=>k=b) (p:=⟨b,15,none⟩) (Only.refl _ w) rfl _
 have hsz0:w0.heap.size=w.heap.size:=by rw[<-hw0];simp
 have hL0:LogT w0 l F L:=hL.only ho0 (fun k hk _ e=>hbF (e▸hk))
 have hR0:Rules N w0:=hR.only ho0 (fun k hk=>hk▸hNb)
 have hT0:Tabs N w0:=hT.only ho0 (fun k hk=>hk▸hNb)
 have hb1:=below1 w0 (.cells (chgA c) 121)
 have hk:=Blk.made w0 121 (chgA c)
 have hlw:=hL.lt.1
 have hlF:=hL.lt.2
 have hbw:=h.lt
 have hbw0:b<w0.heap.size:=h0'.lt
 have hbl:b≠l:=fun e=>hbF (e▸hlF)
 rw[hsz0] at hk
 have d13:=h0'.cell (j:=13) rfl
 have d7:w0.cell? ⟨b,7,none⟩=some (.int .i64 (tick:Int)):=h0'.cell (j:=7) rfl
 have d8:w0.cell? ⟨b,8,none⟩=some (.int .i64 (clean:Int)):=h0'.cell (j:=8) rfl
 have hs1:w.heap.size<(w0.alloc (.cells (chgA c) 121)).heap.size:=by simp[hsz0]
 have hOF:=ho0.trans (Only.of_below hb1)
 have H1:=qH (h0'.up hb1)
 have R1:=qH (hR0.up hb1)
 have T1:=qH (hT0.up hb1)
 have L1:=qH (hL0.up hb1)
 have K1:=qH hk
 have O1:=qH hOF
 have NL:=qH (⟨hNF,hNb,hbF,hlF,hpt,hok,hFb⟩:_/\_/\_/\_/\_/\_/\_)
 have HBL:=qH hbl
 have S1:=qH (⟨hs1,hbw,hlw⟩:_/\_/\_)
 have h0W:=qH h0'
 obtain⟨ck,ca,cb,cid,cnm,ctx,cvk,cvn,chd⟩:=c
 clear h hR hT hL hk hb1 h0' hL0 hR0 hT0 ho0 hNF hNb hbF hlF hpt hok hFb hs1 hsz0 hOF
 go_enter Tryz.func152,Tryz.ntmps152
 go_wp2_with fail
 go_region
 go_wp2_with fail
 generalize w0.alloc (.cells (chgA ⟨ck,ca,cb,cid,cnm,ctx,cvk,cvn,chd⟩) 121)=W at *
 have hsW:w.heap.size<W.heap.size:=S1.out.1
 have hbT:¬ grow F W.heap.size b:=fun h=>h.elim NL.out.2.2.1 (fun e=>by have:=S1.out.2.1;omega)
 have hkT:¬ grow F W.heap.size w.heap.size:=fun h=>h.elim (fun e=>by have:=NL.out.2.2.2.2.2.2 _ e;omega) (fun e=>by omega)
 have hTN:∀ k,grow F W.heap.size k->N<=k:=fun k hk=>hk.elim (NL.out.1 k) (fun e=>by have:=NL.out.2.1;have:=S1.out.2.1;omega)
 have HTT:=qH (⟨hbT,hkT,hTN⟩:_/\_/\_)
 clear hbT hkT hTN hsW
 clear c14 c15 f15 c7 c8 c13 hw0 d7 d8 d13
 have HA:=qH (show BufB W.drew b _ from H1.out.up (Below.refl W.heap.size W).drew)
 have RA:=qH (show Rules N W.drew from R1.out.up (Below.refl W.heap.size W).drew)
 have TA:=qH (show Tabs N W.drew from T1.out.up (Below.refl W.heap.size W).drew)
 have KA:=qH (show Blk W.drew w.heap.size 121 _ from K1.out.up (Below.refl W.heap.size W).drew)
 have LA:=qH (show LogT W.drew l F L from L1.out.up (Below.refl W.heap.size W).drew)
 have OA:=qH (show Only (grow F W.heap.size) W W.drew from Only.of_below (Below.refl W.heap.size W).drew)
 have QA:Hid (LogT W.drew l (grow F W.heap.size) L):=qH (LA.out.mono (fun k hk=>.inl hk))
 clear H1 R1 T1 K1 L1 LA
 have hd:=(Below.refl (W.drew).heap.size (W.drew)).drew
 have hbT:=HTT.out.1
 have hkT:=HTT.out.2.1
 have T13:∀ x:OnW (grow F W.heap.size) (W.drew),x.w.cell? ⟨b,13,none⟩=some (pAt l):=fun x=>(HA.out.only x.on hbT).cell (j:=13) rfl
 have T0:∀ x:OnW (grow F W.heap.size) (W.drew),x.w.cell? ⟨b,0,none⟩=some (.int .i64 (pt:Int)):=fun x=>(HA.out.only x.on hbT).cell (j:=0) rfl
 clear hbT hkT
 refine wp_region_mixO (grow F W.heap.size) 11 (.one [0,1,2,3,4,5,6,7,8,9] 10 (.done [])) (by kernel_rfl) (fun c d v a w h=>by cases d<;>exact h) (by kernel_rfl) ?_
 simp only[wpMixT,pk_nil,pk_cons,pushAt_zero,pushAt_succ,List.drop_succ_cons,List.drop_zero]
 repeat (go_big_quiet_step (fail))
 refine wpQuiet_nil ?_
 clear T0 T13
 go_wp2_with fail
 have hqL:=QA.out
 refine(tadd (hqL.up hd) (pointC_ok NL.out.2.2.2.2.1.1 NL.out.2.2.2.2.1.2) (TA.out.up hd) (RA.out.up hd)).mono ?_
 rintro r w2 ⟨rfl,⟨hq2,ho2⟩⟩
 have hs2:=ho2.size
 have ho2:Only (grow F W.heap.size) (W.drew) w2:=((Only.refl _ (W.drew)).drew).trans ho2
 go_wp2_with fail
 refine thenQ_normal ⟨⟨⟨_,ho2⟩,rfl⟩,?_⟩
 refine wpQuiet_nil ?_
 have ho2':Only (grow F W.heap.size) W w2:=(OA.out).trans ho2
 have H2:=qH (HA.out.only ho2 HTT.out.1)
 have K2:=qH (KA.out.only ho2 HTT.out.2.1)
 have R2:=qH (RA.out.only ho2 HTT.out.2.2)
 have T2:=qH (TA.out.only ho2 HTT.out.2.2)
 have O2:=qH ho2'
 have Q2:Hid (LogT w2 l (grow F W.heap.size) (L.add (pointC pt))):=qH (hq2.mono (grow_two (show W.heap.size<=(W.drew).drew.heap.size from OA.out.size)))
 clear HA KA RA TA OA QA hqL hq2 ho2 ho2' hs2 hd
 have HA:=qH H2.out
 have KA:=qH K2.out
 have RA:=qH R2.out
 have TA:=qH T2.out
 have OA:=qH O2.out
 have QA:=qH Q2.out
 clear H2 K2 R2 T2 O2 Q2
 go_wp2_with fail
 have hd:=(Below.refl (w2).heap.size (w2)).drew
 have hbT:=HTT.out.1
 have hkT:=HTT.out.2.1
 have T13:∀ x:OnW (grow F W.heap.size) (w2),x.w.cell? ⟨b,13,none⟩=some (pAt l):=fun x=>(HA.out.only x.on hbT).cell (j:=13) rfl
 have CB:∀ x:OnW (grow F W.heap.size) (w2),Blk x.w w.heap.size 121 _:=fun x=>KA.out.only x.on hkT
 have b0:=fun x=>(CB x).cell (j:=0) rfl
 have b1:=fun x=>(CB x).cell (j:=1) rfl
 have b2:=fun x=>(CB x).cell (j:=2) rfl
 have b3:=fun x=>(CB x).cell (j:=3) rfl
 have b4:=fun x=>(CB x).cell (j:=4) rfl
 have b5:=fun x=>(CB x).cell (j:=5) rfl
 have b6:=fun x=>(CB x).cell (j:=6) rfl
 have b7:=fun x=>(CB x).cell (j:=7) rfl
 have b8:=fun x=>(CB x).cell (j:=8) rfl
 clear CB hbT hkT
 refine wp_region_mixO (grow F W.heap.size) 6 (.one [0,1,2,3,4] 5 (.done [])) (by kernel_rfl) (fun c d v a w h=>by cases d<;>exact h) (by kernel_rfl) ?_
 simp only[wpMixT,pk_nil,pk_cons,pushAt_zero,pushAt_succ,List.drop_succ_cons,List.drop_zero]
 repeat (go_big_quiet_step (fail))
 refine wpQuiet_nil ?_
 clear T13 b0 b1 b2 b3 b4 b5 b6 b7 b8
 go_wp2_with fail
 have hqL:=QA.out
 refine(tadd (hqL.up hd) NL.out.2.2.2.2.2.1 (TA.out.up hd) (RA.out.up hd)).mono ?_
 rintro r w3 ⟨rfl,⟨hq2,ho2⟩⟩
 have hs2:=ho2.size
 have ho2:Only (grow F W.heap.size) (w2) w3:=((Only.refl _ (w2)).drew).trans ho2
 go_wp2_with fail
 refine thenQ_normal ⟨⟨⟨_,ho2⟩,rfl⟩,?_⟩
 refine wpQuiet_nil ?_
 go_wp2_with fail
 go_end0
 have hsW:w.heap.size<W.heap.size:=S1.out.1
 have hOO:Only (fun k=>k=b\/F k) w w3:=(O1.out.mono (fun k hk=>.inl hk)).then (OA.out.trans ho2) (fun k hk hlt=>hk.elim .inr (fun e=>by omega))
 exact⟨rfl,hOO,HA.out.only ho2 HTT.out.1,(hq2.mono (grow_two (show W.heap.size<=(w2).drew.heap.size from OA.out.size))).mono (grow_mono (F':=F) (m:=w.heap.size) (fun k hk=>hk) (by omega))⟩
theorem gnote {N:Nat} {c:Chg} (hT:Tabs N w) (hR:Rules N w) (h:BufB w b S) (hlg:S.logs=true) (hpt:1<=S.pt/\S.pt<=1000000000) (hNF:∀ k,F k->N<=k) (hNb:N<=b) (hbF:¬ F b) (hL:LogT w S.l F L) (hok:ChgOk c) :
  Calls Tryz.prog 152 #[pAt b,chgV c] w (NoteP w b S F (noteL S L c)):=by
 have hL':=hL.bound
 have key:Calls Tryz.prog 152 #[pAt b,chgV c] w (NoteP w b S (fun k=>F k/\k<w.heap.size) (noteL S L c)):=by
  unfold noteL
  rw[if_pos hlg]
  cases he:S.empty with
  | false=>simpa using gnote_open hT hR h hlg he hpt (fun k hk=>hNF k hk.1) hNb (fun hk=>hbF hk.1) (fun k hk=>hk.2) hL' hok
  | true=>
    by_cases ht:S.tick=S.clean
    ·simpa [ht] using gnote_first hT hR h hlg he ht hpt (fun k hk=>hNF k hk.1) hNb (fun hk=>hbF hk.1) (fun k hk=>hk.2) hL' hok
    ·simpa [ht] using gnote_more hT hR h hlg he ht hpt (fun k hk=>hNF k hk.1) hNb (fun hk=>hbF hk.1) (fun k hk=>hk.2) hL' hok
 refine key.mono ?_
 rintro e w' ⟨he,ho,hk,hq2⟩
 exact⟨he,ho.mono (fun k hk=>hk.elim .inl (fun h=>.inr h.1)),hk,hq2.mono (grow_mono (fun k hk=>hk.1) (Nat.le_refl _))⟩
end
end Go.Proofs.YtkpoodjhjfmfjaaGreatDoor
namespace Go.Proofs.YtkpoodjhjfmfjaaGreatDoor
open Go.RowKit Go.Lib
def noteE (S:BS):BS:=if S.logs=true then { S with empty:=false } else S
def NoteR (w:World) (b:Nat) (S:BS) (F:Nat->Prop) (L:Lg) (e:Ending) (w':World):Prop:=
 e=.returned (.tuple #[])/\Only (fun k=>k=b\/F k) w w'/\BufB w' b (noteE S)/\LogT w' S.l (grow F w.heap.size) L
section
variable {w w' : World} {b l : Nat} {S : BS} {F : Nat → Prop} {L : Lg}
set_option maxHeartbeats 1000000 in
theorem gnote_off (h:BufB w b S) (hlg:S.logs=false) (c:Chg):Calls Tryz.prog 152 #[pAt b,chgV c] w fun e w'=>e=.returned (.tuple #[])/\Below w.heap.size w w':=by
 have c14:w.cell? ⟨b,14,none⟩=some (.bool false):=by rw[<-hlg];exact h.cell (j:=14) rfl
 have hb:=h.lt
 have c14':=fun o=>cell_up (w':=w.alloc o) c14 (below1 w o)
 clear h hlg
 go_enter Tryz.func152,Tryz.ntmps152
 go_wp2_with fail
 refine bodyPost_ret (results_none rfl _ _ _) rfl ?_
 exact⟨rfl,below1 w _⟩
theorem note_any {N:Nat} {c:Chg} (hT:Tabs N w) (hR:Rules N w) (h:BufB w b S) (hpt:1<=S.pt/\S.pt<=1000000000) (hNF:∀ k,F k->N<=k) (hNb:N<=b) (hbF:¬ F b) (hL:LogT w S.l F L) (hok:ChgOk c) :
  Calls Tryz.prog 152 #[pAt b,chgV c] w (NoteR w b S F (noteL S L c)):=by
 cases hlg:S.logs with
 | true=>
   refine(gnote hT hR h hlg hpt hNF hNb hbF hL hok).mono ?_
   rintro e w' ⟨he,ho,hk,hl⟩
   exact⟨he,ho,by unfold noteE;rw[if_pos hlg];exact hk,hl⟩
 | false=>
   refine(gnote_off h hlg c).mono ?_
   rintro e w' ⟨he,hb⟩
   refine⟨he,Only.of_below hb,by unfold noteE;rw[if_neg (by rw[hlg];simp)];exact h.up hb,?_⟩
   have:noteL S L c=L:=by unfold noteL;rw[if_neg (by rw[hlg];simp)]
   rw[this]
   exact(hL.up hb).mono (fun k hk=>.inl hk)
end
end Go.Proofs.YtkpoodjhjfmfjaaGreatDoor
namespace Go.Proofs.YtkpoodjhjfmfjaaGreatDoor
open Go.RowKit Go.Lib
open Ovs (PropE)
structure St where
 pt:Nat
 lo:Nat
 hi:Nat
 mark:Nat
 marked:Bool
 ro:Bool
 fo:Bool
 tick:Nat
 clean:Nat
 logs:Bool
 empty:Bool
 lock:Int
 tokens:Nat
 pr:Int
 ev:Int
 cs:List Nat
 M:List (Int × Mks.Mk)
 mn:Int
 P:List Pc
 D:List Ovs.OverD
 nx:Int
 L:Lg
 X:List Exc
structure Adr where
 t:Nat
 m:Nat
 p:Nat
 o:Nat
 l:Nat
 sv:Value
abbrev St.bs (s:St) (a:Adr):BS:=⟨s.pt,s.lo,s.hi,s.mark,s.marked,s.ro,s.fo,s.tick,s.clean,a.t,a.m,a.p,a.o,a.l,s.logs,s.empty,s.lock,a.sv,s.tokens⟩
abbrev insCg (a n:Nat):Chg:=⟨1,a,((a+n:Nat):Int),0,0,⟨#[]⟩,0,0,false⟩
abbrev delCg (a:Nat) (tx:ByteArray):Chg:=⟨2,a,0,0,0,tx,0,0,false⟩
abbrev markCg (id at_:Int):Chg:=⟨3,at_,0,id,0,⟨#[]⟩,0,0,false⟩
abbrev propCg (f t nm:Int) (o:Option (Int × Int)):Chg:=⟨5,f,t,0,nm,⟨#[]⟩,(o.getD (0,0)).1,(o.getD (0,0)).2,o.isSome⟩
def noteS (s:St) (c:Chg):St:=
 if s.logs=true then { s with empty:=false,L:=(if s.empty=true then (if s.tick=s.clean then s.L.add cleanC else s.L).add (pointC s.pt) else s.L).add c } else s
theorem noteS_L (s:St) (a:Adr) (c:Chg):(noteS s c).L=noteL (s.bs a) s.L c:=by
 unfold noteS noteL
 cases hl:s.logs<;>cases he:s.empty<;>simp[hl,he]
theorem noteS_E (s:St) (a:Adr) (c:Chg):(noteS s c).bs a=noteE (s.bs a):=by
 unfold noteS noteE
 cases hl:s.logs<;>simp[hl]
def movesS (s:St) (fn:Nat->Bool->Nat) (bf:Bool):St:={ s with pt:=fn s.pt bf,lo:=fn s.lo false,hi:=fn s.hi true,mark:=fn s.mark bf,X:=s.X.map (fun x=>x.move fn bf) }
def St.onCs (s:St) (f:List Nat->List Nat):St:={ s with cs:=f s.cs }
def St.onM (s:St) (f:List (Int × Mks.Mk)->Int->List (Int × Mks.Mk)):St:={ s with M:=f s.M s.mn }
def St.onP (s:St) (f:List Pc->List Pc):St:={ s with P:=f s.P }
def St.onD (s:St) (f:List Ovs.OverD->List Ovs.OverD):St:={ s with D:=f s.D }
def St.bump (s:St):St:={ s with tick:=s.tick+1 }
def putS (s:St) (a:Nat) (tx:ByteArray) (bf:Bool):St:=
 if (chrs tx).length=0 then s else
 (movesS (((((noteS s (insCg a (chrs tx).length)).onCs (fun cs=>insX cs a (chrs tx))).onM (fun M n=>(Mks.insR M n a (chrs tx).length bf).m)).onP (fun P=>insertedP P a (chrs tx).length)).onD (fun D=>Ovs.insertedD D a (chrs tx).length)) (insN a (chrs tx).length) bf).bump
def idsIn (M:List (Int × Mks.Mk)) (x y:Int):List Int:=(M.filter (fun p=>decide (x<=p.2.1) && decide (p.2.1<=y))).map (·.1)
def atM (M:List (Int × Mks.Mk)) (id:Int):Int:=match lookM M id with|some v=>v.1|none=>0
def noteMs (s:St) (ids:List Int):St:=ids.foldl (fun s id=>noteS s (markCg id (atM s.M id))) s
def notePs (s:St) (p:Pc):St:=p.ps.foldl (fun s q=>noteS s (propCg p.f p.t q.name (some (q.kind,q.n)))) s
def noteSp (s:St) (l:List Pc):St:=l.foldl notePs s
def noteD (s:St) (x y:Nat):St:=
 noteS (noteSp (noteMs s (idsIn s.M x y)) (spansP s.P x y 0)) (delCg x (encS (subX s.cs x y)))
def takeS (s:St) (x y:Nat):St:=
 if x=y then s else
 (movesS (((((noteD s x y).onCs (fun cs=>delX cs x y)).onM (fun M n=>(Mks.delR M n x y).m)).onP (fun P=>deletedP P x y)).onD (fun D=>Ovs.delD s.ev x y D)) (fun p _=>delN x y p) false).bump
def segsP (P:List Pc) (nm t:Int):Nat->Int->List (Int × Int × Option (Int × Int))
 | 0,_=>[]
 | k+1,at_=>if at_<t then (at_,nextP (sameOf nm) P at_ t,getP P at_ nm) :: segsP P nm t k (nextP (sameOf nm) P at_ t) else []
def noteV (nm:Int) (want:Option (Int × Int)) (s:St) (g:Int × Int × Option (Int × Int)):St:=if g.2.2=want then s else noteS s (propCg g.1 g.2.1 nm g.2.2)
def setE (P:List Pc) (f t nm:Int) (want:Option (Int × Int)):Int:=match want with|some v=>putE P f t ⟨nm,v.1,v.2⟩|none=>checkP f t nm
def setP (P:List Pc) (f t nm:Int) (want:Option (Int × Int)):List Pc:=match want with|some v=>putP P f t ⟨nm,v.1,v.2⟩|none=>takePP P f t nm
def setS (s:St) (f t nm:Int) (want:Option (Int × Int)):St:=
 if setE s.P f t nm want≠0 then s else
 let g:=segsP s.P nm t (t - f).toNat f
 let s1:=g.foldl (noteV nm want) s
 if g.all (fun x=>decide (x.2.2=want))=true then s1 else { s1 with P:=setP s.P f t nm want,tick:=s1.tick+1 }
section
variable (s : St) (c : Chg)
theorem noteS_pt:(noteS s c).pt=s.pt:=by unfold noteS;split<;>rfl
theorem noteS_lo:(noteS s c).lo=s.lo:=by unfold noteS;split<;>rfl
theorem noteS_hi:(noteS s c).hi=s.hi:=by unfold noteS;split<;>rfl
theorem noteS_mark:(noteS s c).mark=s.mark:=by unfold noteS;split<;>rfl
theorem noteS_marked:(noteS s c).marked=s.marked:=by unfold noteS;split<;>rfl
theorem noteS_ro:(noteS s c).ro=s.ro:=by unfold noteS;split<;>rfl
theorem noteS_fo:(noteS s c).fo=s.fo:=by unfold noteS;split<;>rfl
theorem noteS_tick:(noteS s c).tick=s.tick:=by unfold noteS;split<;>rfl
theorem noteS_clean:(noteS s c).clean=s.clean:=by unfold noteS;split<;>rfl
theorem noteS_logs:(noteS s c).logs=s.logs:=by unfold noteS;split<;>rfl
theorem noteS_lock:(noteS s c).lock=s.lock:=by unfold noteS;split<;>rfl
theorem noteS_tokens:(noteS s c).tokens=s.tokens:=by unfold noteS;split<;>rfl
theorem noteS_pr:(noteS s c).pr=s.pr:=by unfold noteS;split<;>rfl
theorem noteS_ev:(noteS s c).ev=s.ev:=by unfold noteS;split<;>rfl
theorem noteS_cs:(noteS s c).cs=s.cs:=by unfold noteS;split<;>rfl
theorem noteS_M:(noteS s c).M=s.M:=by unfold noteS;split<;>rfl
theorem noteS_mn:(noteS s c).mn=s.mn:=by unfold noteS;split<;>rfl
theorem noteS_P:(noteS s c).P=s.P:=by unfold noteS;split<;>rfl
theorem noteS_D:(noteS s c).D=s.D:=by unfold noteS;split<;>rfl
theorem noteS_nx:(noteS s c).nx=s.nx:=by unfold noteS;split<;>rfl
theorem noteS_X:(noteS s c).X=s.X:=by unfold noteS;split<;>rfl
end
structure SameB (s s':St):Prop where
 pt:s'.pt=s.pt
 lo:s'.lo=s.lo
 hi:s'.hi=s.hi
 mark:s'.mark=s.mark
 marked:s'.marked=s.marked
 ro:s'.ro=s.ro
 fo:s'.fo=s.fo
 tick:s'.tick=s.tick
 clean:s'.clean=s.clean
 logs:s'.logs=s.logs
 lock:s'.lock=s.lock
 tokens:s'.tokens=s.tokens
 pr:s'.pr=s.pr
 ev:s'.ev=s.ev
 cs:s'.cs=s.cs
 M:s'.M=s.M
 mn:s'.mn=s.mn
 P:s'.P=s.P
 D:s'.D=s.D
 nx:s'.nx=s.nx
 X:s'.X=s.X
theorem SameB.refl (s:St):SameB s s:=⟨rfl,rfl,rfl,rfl,rfl,rfl,rfl,rfl,rfl,rfl,rfl,rfl,rfl,rfl,rfl,rfl,rfl,rfl,rfl,rfl,rfl⟩
theorem SameB.trans {s t u:St} (h:SameB s t) (k:SameB t u):SameB s u:=⟨k.pt.trans h.pt,k.lo.trans h.lo,k.hi.trans h.hi,k.mark.trans h.mark,k.marked.trans h.marked,k.ro.trans h.ro,k.fo.trans h.fo,k.tick.trans h.tick,k.clean.trans h.clean,k.logs.trans h.logs,k.lock.trans h.lock,k.tokens.trans h.tokens,k.pr.trans h.pr,k.ev.trans h.ev,k.cs.trans h.cs,k.M.trans h.M,k.mn.trans h.mn,k.P.trans h.P,k.D.trans h.D,k.nx.trans h.nx,k.X.trans h.X⟩
theorem noteS_same (s:St) (c:Chg):SameB s (noteS s c):=⟨noteS_pt s c,noteS_lo s c,noteS_hi s c,noteS_mark s c,noteS_marked s c,noteS_ro s c,noteS_fo s c,noteS_tick s c,noteS_clean s c,noteS_logs s c,noteS_lock s c,noteS_tokens s c,noteS_pr s c,noteS_ev s c,noteS_cs s c,noteS_M s c,noteS_mn s c,noteS_P s c,noteS_D s c,noteS_nx s c,noteS_X s c⟩
theorem foldl_same {α:Type} {f:St->α->St} (hf:∀ s x,SameB s (f s x)):∀(l:List α) (s:St),SameB s (l.foldl f s)
 | [],s=>SameB.refl s
 | x :: l,s=>(hf s x).trans (foldl_same hf l (f s x))
theorem noteMs_same (s:St) (ids:List Int):SameB s (noteMs s ids):=foldl_same (fun s id=>noteS_same s _) ids s
theorem notePs_same (s:St) (p:Pc):SameB s (notePs s p):=foldl_same (fun s q=>noteS_same s _) p.ps s
theorem noteSp_same (s:St) (l:List Pc):SameB s (noteSp s l):=foldl_same notePs_same l s
theorem noteV_same (nm:Int) (want:Option (Int × Int)) (s:St) (g:Int × Int × Option (Int × Int)):SameB s (noteV nm want s g):=by unfold noteV;split;exact SameB.refl s;exact noteS_same s _
end Go.Proofs.YtkpoodjhjfmfjaaGreatDoor
namespace Go.Proofs.YtkpoodjhjfmfjaaGreatDoor
open Go.RowKit Go.Lib
open Ovs (PropE)
structure WfM (M:List (Int × Mks.Mk)) (n:Int):Prop where
 asc:(M.map (·.1)).Pairwise (·<·)
 len:M.length<=4096
 n0:0<=n
def MkT (w:World) (m:Nat) (F:Nat->Prop) (M:List (Int × Mks.Mk)) (n:Int):Prop:=∃ bm,Mks.MarksAt w m bm M n/\F m/\F bm/\WfM M n
def NmOk (P:List Pc):Prop:=∀ x ∈ P,∀ q ∈ x.ps,0<=q.name
def PrT (w:World) (p:Nat) (F R:Nat->Prop) (P:List Pc):Prop:=∃ v L R',PrsAt w p v L R'/\L.map PcE.dat=P/\F p/\(∀ k,v.ownBlock=some k->F k)/\(∀ g,R' g->R g/\g<w.heap.size)/\NmOk P
def OvT (w:World) (o:Nat) (F:Nat->Prop) (pr ev:Int) (D:List Ovs.OverD) (nx:Int):Prop:=Ovs.OSt w o pr ev D nx F/\Ovs.WfD D nx/\F o
def ExT (w:World) (sv:Value) (F:Nat->Prop) (X:List Exc):Prop:=ROwn encX 128 7 0 w sv X/\(∀ k,sv.ownBlock=some k->F k)/\X.length<=1000000
structure Core (w:World) (b:Nat) (col:Nat->Nat) (a:Adr) (s:St):Prop where
 buf:BufB w b (s.bs a)
 cb:col b=1
 gap:GapF1 w a.t (fun k=>col k=2) s.cs
 mks:MkT w a.m (fun k=>col k=3) s.M s.mn
 prs:PrT w a.p (fun k=>col k=4) (fun k=>col k=8) s.P
 ovs:OvT w a.o (fun k=>col k=5) s.pr s.ev s.D s.nx
 log:LogT w a.l (fun k=>col k=6) s.L
 exc:ExT w a.sv (fun k=>col k=7) s.X
structure Out (N:Nat) (w:World) (F R:Nat->Prop) (col:Nat->Nat):Prop where
 tb:Tabs N w
 rl:Rules N w
 hN:∀ k,F k->N<=k
 sz:N<=w.heap.size
 inF:∀ k,1<=col k->col k<=7->F k
 inR:∀ k,col k=8->R k
def GBa (N:Nat) (w:World) (b:Nat) (F R:Nat->Prop) (a:Adr) (s:St):Prop:=∃ col,Out N w F R col/\Core w b col a s
def ToA (N:Nat) (w:World) (b:Nat) (F R:Nat->Prop) (a:Adr) (s:St) (w':World):Prop:=GBa N w' b (grow F w.heap.size) (grow R w.heap.size) a s/\Only F w w'
def To (N:Nat) (w:World) (b:Nat) (F R:Nat->Prop) (s:St) (w':World):Prop:=∃ a,ToA N w b F R a s w'
section
variable {w w' w1 : World} {N b c : Nat} {col col' : Nat → Nat} {F R F' R' Z C : Nat → Prop} {a : Adr} {s s' : St}
def ColEq (n:Nat) (col col':Nat->Nat):Prop:=∀ k,k<n->col' k=col k
theorem MkT.only {m:Nat} {M:List (Int × Mks.Mk)} {n:Int} (h:MkT w m F M n) (ho:Only Z w w') (hz:∀ k,F k->k<w.heap.size->¬ Z k) (hF:∀ k,F k->k<w.heap.size->F' k):MkT w' m F' M n:=by
 obtain⟨bm,h1,h2,h3,h4⟩:=h
 exact⟨bm,h1.kept (ho.block m h1.lt (hz m h2 h1.lt)) (ho.block bm h1.im.lt (hz bm h3 h1.im.lt)),hF m h2 h1.lt,hF bm h3 h1.im.lt,h4⟩
theorem PrT.only {p:Nat} {P:List Pc} (h:PrT w p F R P) (ho:Only Z w w') (hz:∀ k,F k\/R k->k<w.heap.size->¬ Z k) (hF:∀ k,F k->k<w.heap.size->F' k) (hR:∀ k,R k->k<w.heap.size->R' k):PrT w' p F' R' P:=by
 obtain⟨v,L,Q,h1,h2,h3,h4,h5,h6⟩:=h
 exact⟨v,L,Q,h1.only ho (hz p (.inl h3) h1.blk.lt) (fun k hk=>hz k (.inl (h4 k hk)) (h1.own.lt hk)) (fun k hk hl=>hz k (.inr (h5 k hk).1) hl),h2,hF p h3 h1.blk.lt,fun k hk=>hF k (h4 k hk) (h1.own.lt hk),fun g hg=>⟨hR g (h5 g hg).1 (h5 g hg).2,Nat.lt_of_lt_of_le (h5 g hg).2 ho.size⟩,h6⟩
theorem OvT.only {o:Nat} {pr ev nx:Int} {D:List Ovs.OverD} (h:OvT w o F pr ev D nx) (ho:Only Z w w') (hz:∀ k,F k->k<w.heap.size->¬ Z k) (hF:∀ k,F k->k<w.heap.size->F' k):OvT w' o F' pr ev D nx:=by
 obtain⟨⟨v,L,h1,h2,h3⟩,h4,h5⟩:=h
 have hb:=h1.blt
 exact⟨⟨v,L,h1.kept fun k hk=>ho.block k (h1.lt hk) (hz k (h3 k hk) (h1.lt hk)),h2,fun k hk=>hF k (h3 k hk) (h1.lt hk)⟩,h4,hF o h5 hb⟩
theorem ExT.only {sv:Value} {X:List Exc} (h:ExT w sv F X) (ho:Only Z w w') (hz:∀ k,F k->k<w.heap.size->¬ Z k) (hF:∀ k,F k->k<w.heap.size->F' k):ExT w' sv F' X:=
 ⟨h.1.kept fun g hg=>ho.block g (h.1.lt hg) (hz g (h.2.1 g hg) (h.1.lt hg)),fun k hk=>hF k (h.2.1 k hk) (h.1.lt hk),h.2.2⟩
theorem GapF1.turn {t:Nat} {cs:List Nat} (h:GapF1 w t F cs) (ho:Only Z w w') (hz:∀ k,F k->k<w.heap.size->¬ Z k) (hF:∀ k,F k->k<w.heap.size->F' k):GapF1 w' t F' cs:=(h.bound.only ho (fun k hk hl=>hz k hk.1 hl)).mono (fun k hk=>hF k hk.1 hk.2)
theorem LogT.turn {l:Nat} {L:Lg} (h:LogT w l F L) (ho:Only Z w w') (hz:∀ k,F k->k<w.heap.size->¬ Z k) (hF:∀ k,F k->k<w.heap.size->F' k):LogT w' l F' L:=(h.bound.only ho (fun k hk hl=>hz k hk.1 hl)).mono (fun k hk=>hF k hk.1 hk.2)
theorem Core.gap_ (h:Core w b col a s) (ho:Only (fun k=>C (col k)) w w') (hc:¬ C 2) (he:ColEq w.heap.size col col'):GapF1 w' a.t (fun k=>col' k=2) s.cs:=h.gap.turn ho (fun k hk _ e=>hc (hk▸e)) (fun k hk hl=>(he k hl).trans hk)
theorem Core.mks_ (h:Core w b col a s) (ho:Only (fun k=>C (col k)) w w') (hc:¬ C 3) (he:ColEq w.heap.size col col'):MkT w' a.m (fun k=>col' k=3) s.M s.mn:=h.mks.only ho (fun k hk _ e=>hc (hk▸e)) (fun k hk hl=>(he k hl).trans hk)
theorem Core.prs_ (h:Core w b col a s) (ho:Only (fun k=>C (col k)) w w') (hc:¬ C 4) (hc8:¬ C 8) (he:ColEq w.heap.size col col'):PrT w' a.p (fun k=>col' k=4) (fun k=>col' k=8) s.P:=h.prs.only ho (fun k hk _ e=>hk.elim (fun hk=>hc (hk▸e)) (fun hk=>hc8 (hk▸e))) (fun k hk hl=>(he k hl).trans hk) (fun k hk hl=>(he k hl).trans hk)
theorem Core.ovs_ (h:Core w b col a s) (ho:Only (fun k=>C (col k)) w w') (hc:¬ C 5) (he:ColEq w.heap.size col col'):OvT w' a.o (fun k=>col' k=5) s.pr s.ev s.D s.nx:=h.ovs.only ho (fun k hk _ e=>hc (hk▸e)) (fun k hk hl=>(he k hl).trans hk)
theorem Core.log_ (h:Core w b col a s) (ho:Only (fun k=>C (col k)) w w') (hc:¬ C 6) (he:ColEq w.heap.size col col'):LogT w' a.l (fun k=>col' k=6) s.L:=h.log.turn ho (fun k hk _ e=>hc (hk▸e)) (fun k hk hl=>(he k hl).trans hk)
theorem Core.exc_ (h:Core w b col a s) (ho:Only (fun k=>C (col k)) w w') (hc:¬ C 7) (he:ColEq w.heap.size col col'):ExT w' a.sv (fun k=>col' k=7) s.X:=h.exc.only ho (fun k hk _ e=>hc (hk▸e)) (fun k hk hl=>(he k hl).trans hk)
theorem Core.buf_ (h:Core w b col a s) (ho:Only (fun k=>C (col k)) w w') (hc:¬ C 1):BufB w' b (s.bs a):=h.buf.only ho (fun e=>hc (h.cb▸e))
theorem Core.cb_ (h:Core w b col a s) (he:ColEq w.heap.size col col'):col' b=1:=(he b h.buf.lt).trans h.cb
def colG (col:Nat->Nat) (n c:Nat):Nat->Nat:=fun k=>if k<n then col k else c
theorem colG_eq (n c:Nat):ColEq n col (colG col n c):=fun k hk=>if_pos hk
theorem Core.keep (h:Core w b col a s) (ho:Only (fun _=>False) w w') (he:ColEq w.heap.size col col'):Core w' b col' a s:=
 ⟨h.buf.only ho id,h.cb_ he,h.gap.turn ho (fun _ _ _=>id) (fun k hk hl=>(he k hl).trans hk),h.mks.only ho (fun _ _ _=>id) (fun k hk hl=>(he k hl).trans hk),h.prs.only ho (fun _ _ _=>id) (fun k hk hl=>(he k hl).trans hk) (fun k hk hl=>(he k hl).trans hk),
  h.ovs.only ho (fun _ _ _=>id) (fun k hk hl=>(he k hl).trans hk),h.log.turn ho (fun _ _ _=>id) (fun k hk hl=>(he k hl).trans hk),h.exc.only ho (fun _ _ _=>id) (fun k hk hl=>(he k hl).trans hk)⟩
theorem GBa.up (h:GBa N w b F R a s) (hb:Below w.heap.size w w'):GBa N w' b F R a s:=by
 obtain⟨col,⟨h1,h2,h3,h4,h6,h7⟩,h5⟩:=h
 exact⟨col,⟨h1.up hb,h2.up hb,h3,Nat.le_trans h4 hb.size,h6,h7⟩,h5.keep (Only.of_below hb) (fun k _=>rfl)⟩
theorem GBa.mono (h:GBa N w b F R a s) (hF:∀ k,F k->F' k) (hR:∀ k,R k->R' k) (hN:∀ k,F' k->N<=k):GBa N w b F' R' a s:=by
 obtain⟨col,⟨h1,h2,h3,h4,h6,h7⟩,h5⟩:=h
 exact⟨col,⟨h1,h2,hN,h4,fun k g1 g2=>hF k (h6 k g1 g2),fun k g=>hR k (h7 k g)⟩,h5⟩
theorem GBa.hN (h:GBa N w b F R a s):∀ k,F k->N<=k:=by obtain⟨col,o,_⟩:=h;exact o.hN
theorem GBa.sz (h:GBa N w b F R a s):N<=w.heap.size:=by obtain⟨col,o,_⟩:=h;exact o.sz
theorem GBa.tabs (h:GBa N w b F R a s):Tabs N w:=by obtain⟨col,o,_⟩:=h;exact o.tb
theorem GBa.rules (h:GBa N w b F R a s):Rules N w:=by obtain⟨col,o,_⟩:=h;exact o.rl
theorem GBa.buf (h:GBa N w b F R a s):BufB w b (s.bs a):=by obtain⟨col,o,h5⟩:=h;exact h5.buf
theorem GBa.ib (h:GBa N w b F R a s):F b:=by obtain⟨col,o,h5⟩:=h;exact o.inF b (by rw[h5.cb];omega) (by rw[h5.cb];omega)
theorem GBa.bound (h:GBa N w b F R a s):GBa N w b (fun k=>F k/\k<w.heap.size) (fun k=>R k/\k<w.heap.size) a s:=by
 obtain⟨col,⟨h1,h2,h3,h4,h6,h7⟩,h5⟩:=h
 have he:ColEq w.heap.size col (colG col w.heap.size 0):=colG_eq _ _
 refine⟨colG col w.heap.size 0,⟨h1,h2,fun k hk=>h3 k hk.1,h4,fun k g1 g2=>?_,fun k g=>?_⟩,h5.keep (Only.refl _ w) he⟩
 ·rcases Nat.lt_or_ge k w.heap.size with hl|hl
  ·rw[he k hl] at g1 g2;exact⟨h6 k g1 g2,hl⟩
  ·rw[show colG col w.heap.size 0 k=0 from if_neg (by omega)] at g1;omega
 ·rcases Nat.lt_or_ge k w.heap.size with hl|hl
  ·rw[he k hl] at g;exact⟨h7 k g,hl⟩
  ·rw[show colG col w.heap.size 0 k=0 from if_neg (by omega)] at g;omega
theorem Out.to {a':Adr} (C:Nat->Prop) (hC:∀ i,C i->1<=i/\i<=7) (h:Out N w F R col) (he:ColEq w.heap.size col col') (ho:Only (fun k=>C (col k)) w w') (hc':Core w' b col' a' s'):ToA N w b F R a' s' w':=by
 obtain⟨h1,h2,h3,h4,h6,h7⟩:=h
 have hcF:∀ k,C (col k)->F k:=fun k hk=>h6 k (hC _ hk).1 (hC _ hk).2
 have hzN:∀ k,C (col k)->N<=k:=fun k hk=>h3 k (hcF k hk)
 refine⟨⟨col',⟨h1.only ho hzN,h2.only ho hzN,fun k hk=>hk.elim (h3 k) (fun e=>by omega),Nat.le_trans h4 ho.size,fun k g1 g2=>?_,fun k g=>?_⟩,hc'⟩,ho.mono hcF⟩
 ·rcases Nat.lt_or_ge k w.heap.size with hl|hl
  ·rw[he k hl] at g1 g2;exact .inl (h6 k g1 g2)
  ·exact .inr hl
 ·rcases Nat.lt_or_ge k w.heap.size with hl|hl
  ·rw[he k hl] at g;exact .inl (h7 k g)
  ·exact .inr hl
theorem ToA.refl (h:GBa N w b F R a s):ToA N w b F R a s w:=⟨h.mono (fun k hk=>.inl hk) (fun k hk=>.inl hk) (fun k hk=>hk.elim (h.hN k) (fun e=>by have:=h.sz;omega)),Only.refl F w⟩
theorem ToA.of_below (h:GBa N w b F R a s) (hb:Below w.heap.size w w'):ToA N w b F R a s w':=⟨(h.up hb).mono (fun k hk=>.inl hk) (fun k hk=>.inl hk) (fun k hk=>hk.elim (h.hN k) (fun e=>by have:=h.sz;omega)),Only.of_below hb⟩
theorem ToA.gb (h:ToA N w b F R a s w'):GBa N w' b (grow F w.heap.size) (grow R w.heap.size) a s:=h.1
theorem ToA.trans {a':Adr} (h:ToA N w b F R a s w1) (k:ToA N w1 b (grow F w.heap.size) (grow R w.heap.size) a' s' w'):ToA N w b F R a' s' w':=
 ⟨k.1.mono (fun i hi=>grow_two h.2.size i hi) (fun i hi=>grow_two h.2.size i hi) (fun i hi=>h.1.hN i hi),h.2.grow k.2⟩
theorem ToA.below (h:ToA N w b F R a s w1) (hb:Below w1.heap.size w1 w'):ToA N w b F R a s w':=⟨h.1.up hb,h.2.trans (Only.of_below hb)⟩
theorem ToA.to (h:ToA N w b F R a s w'):To N w b F R s w':=⟨a,h⟩
theorem To.trans (h:To N w b F R s w1) (k:To N w1 b (grow F w.heap.size) (grow R w.heap.size) s' w'):To N w b F R s' w':=by
 obtain⟨a,h⟩:=h;obtain⟨a',k⟩:=k;exact⟨a',h.trans k⟩
theorem ToA.widen (h:ToA N w b F' R' a s w') (hF:∀ k,F' k->F k) (hR:∀ k,R' k->R k) (hN:∀ k,F k->N<=k) (hs:N<=w.heap.size):ToA N w b F R a s w':=
 ⟨h.1.mono (fun k hk=>hk.imp (hF k) id) (fun k hk=>hk.imp (hR k) id) (fun k hk=>hk.elim (hN k) (fun e=>Nat.le_trans hs e)),h.2.mono hF⟩
abbrev owned (F:Nat->Prop) (n m:Nat):Nat->Prop:=fun k=>grow F n k/\k<m
theorem ToA.rebase (h:ToA N w b F R a s w1) (hb:Below w1.heap.size w1 w'):GBa N w' b (owned F w.heap.size w1.heap.size) (owned R w.heap.size w1.heap.size) a s:=h.gb.bound.up hb
theorem ToA.after {a':Adr} {w2:World} (h:ToA N w b F R a s w1) (hb:Below w1.heap.size w1 w2) (k:ToA N w2 b (owned F w.heap.size w1.heap.size) (owned R w.heap.size w1.heap.size) a' s' w'):ToA N w b F R a' s' w':=
 (h.below hb).trans (k.widen (fun i hi=>hi.1) (fun i hi=>hi.1) (fun i hi=>h.gb.hN i hi) (Nat.le_trans h.gb.sz hb.size))
theorem ToA.before {a0:Adr} {s0:St} (h0:GBa N w b F R a0 s0) (hb:Below w.heap.size w w1) (h:ToA N w1 b F R a s w'):ToA N w b F R a s w':=
 ⟨h.1.mono (fun k hk=>hk.imp id (fun e=>Nat.le_trans hb.size e)) (fun k hk=>hk.imp id (fun e=>Nat.le_trans hb.size e)) (fun k hk=>hk.elim (h0.hN k) (fun e=>Nat.le_trans h0.sz e)),(Only.of_below hb).trans h.2⟩
theorem To.before {a0:Adr} {s0:St} (h:To N w1 b F R s w') (h0:GBa N w b F R a0 s0) (hb:Below w.heap.size w w1):To N w b F R s w':=by obtain⟨a,h⟩:=h;exact⟨a,ToA.before h0 hb h⟩
end
end Go.Proofs.YtkpoodjhjfmfjaaGreatDoor
