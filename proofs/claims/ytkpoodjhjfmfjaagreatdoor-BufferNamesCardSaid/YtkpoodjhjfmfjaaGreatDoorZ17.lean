/- A part. -/
import Derived.Test.YtkpoodjhjfmfjaaGreatDoorZ16
import Derived.Laws.ResultCell
import Derived.Test.YtkpoodjhjfmfjaaGreatDoorZlw
set_option linter.unusedVariables false
set_option linter.unusedSimpArgs false
namespace Go.Proofs.YtkpoodjhjfmfjaaGreatDoor
open Go.RowKit Go.Lib
open Ovs (PropE encP eltP)
theorem subL_all (cs:List Nat):subL cs 1 (cs.length+1)=cs:=by unfold subL;simp
section
variable {w w' : World}
set_option maxHeartbeats 1000000 in
theorem gAll {g t:Nat} {cs:List Nat} (h:GapR w t g cs):Calls Tryz.prog 87 #[pAt t] w fun r w'=>r=.returned (.string (encS cs))/\Below w.heap.size w w':=by
 have hl:=h.len
 have H:=qH h
 have HS:=qH (gsize h)
 have s1:IntKind.i64.wrap ((cs.length:Int)+1)=((cs.length+1:Nat):Int):=by rw[IntWalk.i64_in _ (by omega)];omega
 clear h
 go_enter Tryz.func87,Tryz.ntmps87
 go_wp2_with fail
 refine HS.out.mono ?_
 rintro e w1 ⟨rfl,hb1⟩
 have HB:=qH hb1
 have HSL:=qH (gslice_ok (H.out.up hb1) 1 (cs.length+1) (by omega) (by omega) (by omega))
 rw[subL_all] at HSL
 clear hb1
 go_wp2_with fail
 refine HSL.out.mono ?_
 rintro e w2 ⟨rfl,hb2⟩
 go_wp2_with fail
 go_ret
 exact⟨rfl,up2 HB.out hb2⟩
end
section
variable {w w' w1 : World} {N b n : Nat} {F R : Nat → Prop} {a : Adr} {s s' : St} {c : Chg}
theorem GBa.tall (h:GBa N w b F R a s):Calls Tryz.prog 87 #[pAt a.t] w fun r w'=>r=.returned (.string (encS s.cs))/\Below w.heap.size w w':=by
 obtain⟨col,o,k⟩:=h
 obtain⟨g,hg⟩:=k.gap.r
 exact gAll hg
set_option maxRecDepth 100000 in
set_option maxHeartbeats 1000000 in
theorem All_ok (h:GBa N w b F R a s)  :
  Calls Tryz.prog 24 #[pAt b] w fun r w'=>r=.returned (.string (encS s.cs))/\Below w.heap.size w w':=by
 have q:=h.ct
 have H:=qH h
 clear h
 go_enter Tryz.func24,Tryz.ntmps24
 go_wp2_with fail
 refine H.out.none_.mono ?_
 rintro e w0 ⟨rfl,rfl⟩
 go_wp2_with fail
 refine(H.out.tall).mono ?_
 rintro e w1 ⟨rfl,hb⟩
 clear q
 go_wp2_with fail
 go_ret
 exact⟨rfl,hb⟩
set_option maxRecDepth 100000 in
set_option maxHeartbeats 1000000 in
theorem Marker_ok (h:GBa N w b F R a s) (id:Int) :
  Calls Tryz.prog 19 #[pAt b,.int .i64 id] w fun r w'=>r=.returned (.tuple #[.int .i64 (atM s.M id),.bool (lookM s.M id).isSome])/\Below w.heap.size w w':=by
 have q:=h.cm
 have H:=qH h
 clear h
 go_enter Tryz.func19,Tryz.ntmps19
 go_wp2_with fail
 refine H.out.none_.mono ?_
 rintro e w0 ⟨rfl,rfl⟩
 go_wp2_with fail
 refine(H.out.mat id).mono ?_
 rintro e w1 ⟨rfl,hb⟩
 clear q
 go_wp2_with fail
 go_ret2
 exact⟨rfl,hb⟩
set_option maxRecDepth 100000 in
set_option maxHeartbeats 1000000 in
theorem Prop_ok (h:GBa N w b F R a s) (x nm:Int) :
  Calls Tryz.prog 23 #[pAt b,.int .i64 x,.int .i64 nm] w fun r w'=>r=.returned (getV2 (getP s.P x nm))/\Below w.heap.size w w':=by
 have HG:=qH (fun(V:World) (hb:Below w.heap.size w V)=>(h.up hb).pget x nm)
 unfold getV2 at HG ⊢
 generalize getP s.P x nm=gp at *
 have q:=h.cp
 have H:=qH h
 clear h
 have hbx:=below1 w (.cells #[.int .i64 0,.int .i64 0] 31)
 have q:=cell_up q hbx
 have HX:=qH hbx
 have HBK:=qH (Blk.made w 31 #[.int .i64 0,.int .i64 0])
 have H:=qH (H.out.up hbx)
 clear hbx
 go_enter Tryz.func23,Tryz.ntmps23
 go_wp2_with fail
 generalize w.alloc (.cells #[.int .i64 0,.int .i64 0] 31)=W at *
 refine H.out.none_.mono ?_
 rintro e w0 ⟨rfl,rfl⟩
 go_wp2_with fail
 refine(HG.out _ HX.out).mono ?_
 rintro e w1 ⟨rfl,hb⟩
 clear q
 have hbk:=HBK.out.up hb
 have b0:=hbk.cell (j:=0) rfl
 have b1:=hbk.cell (j:=1) rfl
 have f0:=hbk.fz 0
 have f1:=hbk.fz 1
 clear hbk
 go_wp2_with fail
 (try simp only[Exit.inBlock,Exit.then])
 refine bodyPost_ret (v:=.tuple #[.agg #[.int .i64 (gp.getD (0,0)).fst,.int .i64 (gp.getD (0,0)).snd],.bool gp.isSome]) ?_ rfl ⟨rfl,((up2 HX.out hb).setCell (p:=⟨w.heap.size,0,none⟩) (Nat.le_refl _) _).setCell (p:=⟨w.heap.size,1,none⟩) (Nat.le_refl _) _⟩
 rw[results_cell_tmp rfl]
 go_simp
set_option maxRecDepth 100000 in
set_option maxHeartbeats 1000000 in
theorem Point_ok (h:GBa N w b F R a s)  :
  Calls Tryz.prog 42 #[pAt b] w fun r w'=>r=.returned (.int .i64 (s.pt:Int))/\Below w.heap.size w w':=by
 have c0:w.cell? ⟨b,0,none⟩=some (.int .i64 (s.pt:Int)):=h.buf.cell (j:=0) rfl
 have HN:=qH h.none_
 clear h
 go_enter Tryz.func42,Tryz.ntmps42
 go_wp2_with fail
 refine HN.out.mono ?_
 rintro e w0 ⟨rfl,rfl⟩
 go_wp2_with fail
 go_ret
 exact⟨rfl,Below.refl _ _⟩
set_option maxRecDepth 100000 in
set_option maxHeartbeats 1000000 in
theorem Modified_ok (h:GBa N w b F R a s)  :
  Calls Tryz.prog 21 #[pAt b] w fun r w'=>r=.returned (.bool (!((s.tick:Int) ==(s.clean:Int))))/\Below w.heap.size w w':=by
 have c7:w.cell? ⟨b,7,none⟩=some (.int .i64 (s.tick:Int)):=h.buf.cell (j:=7) rfl
 have c8:w.cell? ⟨b,8,none⟩=some (.int .i64 (s.clean:Int)):=h.buf.cell (j:=8) rfl
 have H:=qH h
 clear h
 generalize (s.tick:Int)=x at *
 generalize (s.clean:Int)=y at *
 have X1:∀ X:UpW w.heap.size w,X.w.cell? ⟨b,7,none⟩=some (.int .i64 x):=fun X=>cell_up c7 X.up
 have X2:∀ X:UpW w.heap.size w,X.w.cell? ⟨b,8,none⟩=some (.int .i64 y):=fun X=>cell_up c8 X.up
 have HN:=qH (fun(W:World) (hb:Below w.heap.size w W)=>(H.out.up hb).none_)
 clear c7 c8 H
 go_enter Tryz.func21,Tryz.ntmps21
 go_wp2_with fail
 refine wp_region_mix w.heap.size 17 [([0],1)] [2,3,4,5,6,7,8,9,10,11,12,13,14,15,16] (by kernel_rfl) (fun c d v a w h=>by cases d<;>exact h) (by kernel_rfl) ?_
 simp only[wpMix,pk_nil,pk_cons,pushAt_zero,pushAt_succ,List.drop_succ_cons,List.drop_zero]
 repeat (go_big_quiet_step (fail))
 refine wpQuiet_nil ?_
 go_wp2_with fail
 refine(HN.out _ (Below.refl _ w).drew).mono ?_
 rintro e w0 ⟨rfl,rfl⟩
 go_wp2_with fail
 refine thenQ_normal ⟨⟨⟨_,(Below.refl _ w).drew⟩,rfl⟩,?_⟩
 repeat (go_big_quiet_step (fail))
 refine wpQuiet_nil ?_
 clear X1 X2
 go_wp2_with fail
 go_ret
 exact⟨rfl,(Below.refl _ w).drew⟩
set_option maxHeartbeats 1000000 in
theorem tall0 {l:Nat} {F:Nat->Prop} (h:LogT w l F ⟨[],[],-1⟩):Calls Tryz.prog 93 #[pAt l] w fun r w'=>r=.returned (.slice none 0 0)/\Below w.heap.size w w':=by
 have HN:=qH (tnone h)
 obtain⟨hk,gv,ov,vs,hx,hf⟩:=h
 have h2:=hx.nil rfl
 have h3:vs=[]:=List.eq_nil_of_length_eq_zero (by rw[hx.len];rfl)
 obtain⟨A,cap,hgv,_,_,_⟩:=hx.gr.shape eltG
 have hgv':gv=.slice A 0 cap:=by rw[hgv,h3];rfl
 have c1:w.cell? ⟨l,1,none⟩=some (.slice A 0 cap):=by rw[<-hgv'];exact hx.blk.cell (j:=1) rfl
 have c2:w.cell? ⟨l,2,none⟩=some (.slice none 0 0):=by rw[<-h2];exact hx.blk.cell (j:=2) rfl
 clear hx hk hf h2 h3 hgv hgv'
 go_enter Tryz.func93,Tryz.ntmps93
 go_wp2_with fail
 refine HN.out.mono ?_
 rintro e w0 ⟨rfl,rfl⟩
 go_wp2_with fail
 go_loopw [3,13] (fun va vb wr=>va=.slice none 0 0/\vb=.int .i64 0/\wr=w) (fun _ _ _=>0)
 case atStart=>exact⟨rfl,rfl,rfl⟩
 case round=>
  obtain⟨rfl,rfl,rfl⟩:=hrel
  go_wp2_with fail
  go_ret
  exact⟨rfl,Below.refl _ _⟩
theorem GBa.lall0 (h:GBa N w b F R a s) (hL:s.L=⟨[],[],-1⟩):Calls Tryz.prog 93 #[pAt a.l] w fun r w'=>r=.returned (.slice none 0 0)/\Below w.heap.size w w':=by
 obtain⟨col,o,k⟩:=h
 have hk:=k.log
 rw[hL] at hk
 exact tall0 hk
set_option maxRecDepth 100000 in
set_option maxHeartbeats 1000000 in
theorem Changes0_ok (h:GBa N w b F R a s) (hL:s.L.G=[]/\s.L.O=[]/\s.L.ch=-1) :
  Calls Tryz.prog 31 #[pAt b] w fun r w'=>r=.returned (.slice none 0 0)/\Below w.heap.size w w':=by
 have hL':s.L=⟨[],[],-1⟩:=by obtain⟨h1,h2,h3⟩:=hL;generalize s.L=L at *;cases L;simp_all
 have HA:=qH (h.lall0 hL')
 have HN:=qH h.none_
 have q:=h.cl
 clear h hL hL'
 go_enter Tryz.func31,Tryz.ntmps31
 go_wp2_with fail
 refine HN.out.mono ?_
 rintro e w0 ⟨rfl,rfl⟩
 go_wp2_with fail
 refine HA.out.mono ?_
 rintro e w1 ⟨rfl,hb⟩
 go_wp2_with fail
 go_ret
 exact⟨rfl,hb⟩
end
end Go.Proofs.YtkpoodjhjfmfjaaGreatDoor
namespace Go.Proofs.YtkpoodjhjfmfjaaGreatDoor
open Go.RowKit Go.Lib
open Ovs (PropE encP eltP)
structure Sb (N:Nat) (w:World) (B0 b:Nat) (w':World) (s:St):Prop where
 bl:Below B0 w w'
 gb:∃ a,GBa N w' b (fun k=>B0<=k) (fun k=>B0<=k) a s
 sz:B0<=w'.heap.size
def posB (s:St) (B:Nat):Bool:=decide (1<=s.pt/\1<=s.lo/\1<=s.hi/\s.pt<=B/\s.lo<=B/\s.hi<=B/\s.mark<=B/\s.tick<=B) && s.X.all fun x=>decide (x.pt<=B/\x.lo<=B/\x.hi<=B/\x.mark<=B/\1<=x.pt/\1<=x.lo/\1<=x.hi)
theorem Pos.ofB {s:St} {B:Nat} (h:posB s B=true):Pos s B:=by
 unfold posB at h
 rw[Bool.and_eq_true,decide_eq_true_eq,List.all_eq_true] at h
 obtain⟨⟨h1,h2,h3,h4,h5,h6,h7,h8⟩,hx⟩:=h
 refine⟨h1,h2,h3,h4,h5,h6,h7,fun x q=>?_,fun x q=>?_,h8⟩
 ·have:=hx x q;rw[decide_eq_true_eq] at this;exact⟨this.1,this.2.1,this.2.2.1,this.2.2.2.1⟩
 ·have:=hx x q;rw[decide_eq_true_eq] at this;exact this.2.2.2.2
def chgB (c:Chg) (B:Nat):Bool:=
 decide (c.k=1\/c.k=2\/c.k=3\/c.k=4\/c.k=5\/c.k=6) && decide (c.k=6\/(1<=c.a/\c.a<=B)) && decide (¬(c.k=1\/c.k=5)\/(c.a<=c.b/\c.b<=1099511627776)) && decide (c.k≠5\/0<=c.nm) && decide (c.k≠2\/((charsD c.tx.data.toList).isSome=true/\c.tx.size<=262144)) && decide (c.k≠1\/c.b<=B)
theorem ChgLe.ofB {c:Chg} {B:Nat} (hB:B<=1000000000) (h:chgB c B=true):ChgLe c B:=by
 unfold chgB at h
 simp only[Bool.and_eq_true,decide_eq_true_eq] at h
 obtain⟨⟨⟨⟨⟨h1,h2⟩,h3⟩,h4⟩,h5⟩,h6⟩:=h
 exact⟨⟨h1,fun e=>by rcases h2 with q|q;exact absurd q e;exact⟨q.1,by omega⟩,fun e=>by rcases h3 with q|q;exact absurd e q;exact q,fun e=>by rcases h4 with q|q;exact absurd e q;exact q,fun e=>by rcases h5 with q|q;exact absurd e q;exact q⟩,fun e=>by rcases h6 with q|q;exact absurd e q;exact q,fun e=>by rcases h2 with q|q;exact absurd q e;exact q.2⟩
def lgB (L:Lg) (B:Nat):Bool:=(L.G.all fun g=>g.all fun c=>chgB c B) && L.O.all fun c=>chgB c B
theorem LgLe.ofB {L:Lg} {B:Nat} (hB:B<=1000000000) (h:lgB L B=true):LgLe L B:=by
 unfold lgB at h
 rw[Bool.and_eq_true,List.all_eq_true,List.all_eq_true] at h
 exact⟨fun g hg c hc=>ChgLe.ofB hB (List.all_eq_true.1 (h.1 g hg) c hc),fun c hc=>ChgLe.ofB hB (h.2 c hc)⟩
def aInsert (s:St) (tx:ByteArray) (bf:Bool):St:=if isE s tx=0 then isS s tx bf else s
def aGoto (s:St) (x:Int):St:=if errB 3 (reachS s x x)=0 then { s with pt:=x.toNat } else s
def aNarrow (s:St) (x y:Int):St:=if errB 3 (validS s x y)=0 then narS s x y else s
def aPut (s:St) (x:Int) (tx:ByteArray):St:=if plE s x tx=0 then putS s x.toNat tx false else s
def aDelete (s:St) (x y:Int):St:=if dlE s x y=0 then takeS s x.toNat y.toNat else s
def aMarker (s:St) (x:Int) (on:Bool):St:=if errB 3 (validS s x x)=0 then { s with M:=(Mks.addR s.M s.mn x on).m,mn:=(Mks.addR s.M s.mn x on).n } else s
def aReplace (s:St) (x y:Int) (tx:ByteArray):St:=if repEr s x y tx=0 then repSt s x y tx else s
def aMove (s:St) (id x:Int):St:=if mmE s id x=0 then { s with M:=(Mks.moveR s.M s.mn id x).m,mn:=(Mks.moveR s.M s.mn id x).n } else s
section
variable {N : Nat} {w w1 w2 : World} {B0 b : Nat} {s1 s2 : St}
theorem Sb.next (h:Sb N w B0 b w1 s1) {a:Adr} {F R:Nat->Prop} (k:To N w1 b F R s2 w2) (hF:F=fun k=>B0<=k) (hR:R=fun k=>B0<=k) (hN:N<=B0):Sb N w B0 b w2 s2:=by
 obtain⟨a',hg,ho⟩:=k
 subst hF;subst hR
 exact⟨h.bl.trans (ho.below h.sz (fun k hk=>hk)),⟨a',hg.mono (fun k hk=>hk.elim id (fun e=>Nat.le_trans h.sz e)) (fun k hk=>hk.elim id (fun e=>Nat.le_trans h.sz e)) (fun k hk=>Nat.le_trans hN hk)⟩,Nat.le_trans h.sz ho.size⟩
theorem Sb.up (h:Sb N w B0 b w1 s1) (k:Below w1.heap.size w1 w2):Sb N w B0 b w2 s1:=
 ⟨h.bl.trans (k.mono h.sz),by obtain⟨a,hg⟩:=h.gb;exact⟨a,hg.up k⟩,by have:=k.size;have:=h.sz;omega⟩
theorem Sb.call (h:Sb N w B0 b w1 s1) (hN:N<=B0) {f:FuncId} {args:Array Value} {v:Value}
  (hc:∀ a,GBa N w1 b (fun k=>B0<=k) (fun k=>B0<=k) a s1->Calls Tryz.prog f args w1 fun r w'=>r=.returned v/\To N w1 b (fun k=>B0<=k) (fun k=>B0<=k) s2 w') :
  Calls Tryz.prog f args w1 fun r w'=>r=.returned v/\Sb N w B0 b w' s2:=by
 obtain⟨a,hg⟩:=h.gb
 exact(hc a hg).mono fun r w' ⟨hr,ht⟩=>⟨hr,h.next (a:=a) ht rfl rfl hN⟩
theorem Sb.read (h:Sb N w B0 b w1 s1) {f:FuncId} {args:Array Value} {v:Value}
  (hc:∀ a,GBa N w1 b (fun k=>B0<=k) (fun k=>B0<=k) a s1->Calls Tryz.prog f args w1 fun r w'=>r=.returned v/\Below w1.heap.size w1 w') :
  Calls Tryz.prog f args w1 fun r w'=>r=.returned v/\Sb N w B0 b w' s1:=by
 obtain⟨a,hg⟩:=h.gb
 exact(hc a hg).mono fun r w' ⟨hr,ht⟩=>⟨hr,h.up ht⟩
theorem Sb.new (hT:Tabs N w) (hR:Rules N w) (hN:N<=w.heap.size) (pr ev lock:Int):Calls Tryz.prog 68 #[.int .i64 pr,.int .i64 ev,.int .i64 lock] w fun e w'=>
  ∃ b,e=.returned (pAt b)/\Sb N w w.heap.size b w' (newSt pr ev lock):=
 (New_ok hT hR hN pr ev lock).mono fun e w' ⟨b,a,he,hb,hg⟩=>⟨b,he,hb,⟨a,hg.mono (fun k hk=>hk.1) (fun k hk=>hk.elim) (fun k hk=>Nat.le_trans hN hk)⟩,hb.size⟩
theorem fitsE_fresh {s:ByteArray} (hs:s.size<=10000) (hv:(charsD s.data.toList).isSome=true):fitsE s 0 0=0:=by
 have:=chrs_len s
 unfold fitsE
 rw[vld_chars,if_pos hv,rlenG_chars hv,if_neg (by simp;omega)]
theorem fitsE_bad {s:ByteArray} {n:Nat} {less:Int} (hv:¬(charsD s.data.toList).isSome=true):fitsE s n less=5:=by
 unfold fitsE
 rw[vld_chars,if_neg hv]
def withS (s:ByteArray):St:=bndS (isS (newSt 1 2 3) s false)
theorem newPos:Pos (newSt 1 2 3) 900000000:=Pos.ofB (by decide +kernel)
set_option maxRecDepth 100000 in
set_option maxHeartbeats 2000000 in
theorem with_ok (hT:Tabs N w) (hR:Rules N w) (hN:N<=w.heap.size) (s:ByteArray) (hs:s.size<=10000) :
  Calls Tryz.prog 11 #[.string s] w fun r w'=>∃ b,r=.returned (.tuple #[pAt b,.bool (charsD s.data.toList).isSome])/\((charsD s.data.toList).isSome=true->Sb N w w.heap.size b w' (withS s))/\Below w.heap.size w w':=by
 have HT:=qH hT
 have HR:=qH hR
 have HN:=qH hN
 clear hT hR hN
 go_enter Tryz.func11,Tryz.ntmps11
 go_wp2_with fail
 refine(Sb.new HT.out HR.out HN.out 1 2 3).mono ?_
 rintro e w1 ⟨b,rfl,h1⟩
 by_cases hv:(charsD s.data.toList).isSome=true
 ·have hf:isE (newSt 1 2 3) s=0:=fitsE_fresh hs hv
  have HI:=h1.call HN.out (s2:=aInsert (newSt 1 2 3) s false) (fun a hg=>Insert_ok hg newPos s (by omega))
  rw[hf] at HI
  have HS2:aInsert (newSt 1 2 3) s false=isS (newSt 1 2 3) s false:=by unfold aInsert;rw[if_pos hf]
  rw[HS2] at HI
  have HV:=qH hv
  have HJ:=qH HI
  clear HI hf hv h1 HS2
  go_wp2_with fail
  refine HJ.out.mono ?_
  rintro e w2 ⟨rfl,h2⟩
  have HBd:=qH (h2.call HN.out (s2:=withS s) (fun a hg=>(Boundary_ok hg).mono fun r w' ⟨hr,ht⟩=>⟨hr,ht.to⟩))
  clear h2 HJ
  go_wp2_with fail
  refine HBd.out.mono ?_
  rintro e w3 ⟨rfl,h3⟩
  have H3:=qH h3
  clear h3 HBd
  go_wp2_with fail
  go_ret2
  exact⟨b,by rw[HV.out];rfl,fun _=>H3.out,H3.out.bl⟩
 ·have hf:isE (newSt 1 2 3) s=5:=fitsE_bad (n:=0) (less:=0) hv
  have HI:=h1.call HN.out (s2:=aInsert (newSt 1 2 3) s false) (fun a hg=>Insert_ok hg newPos s (by omega))
  rw[hf] at HI
  have hv':(charsD s.data.toList).isSome=false:=by simpa using hv
  have HV':=qH hv'
  have HJ:=qH HI
  clear HI hf hv hv' h1
  go_wp2_with fail
  refine HJ.out.mono ?_
  rintro e w2 ⟨rfl,h2⟩
  have H2:=qH h2
  clear h2 HJ
  go_wp2_with fail
  go_ret2
  exact⟨b,by rw[HV'.out];rfl,fun h=>by(rw[HV'.out] at h;cases h),H2.out.bl⟩
end
end Go.Proofs.YtkpoodjhjfmfjaaGreatDoor
namespace Go.Proofs.YtkpoodjhjfmfjaaGreatDoor
open Go.RowKit Go.Lib
open Ovs (PropE encP eltP)
def lv0:St:=withS ⟨#[104,101,108,108,111]⟩
def lv1:St:=aGoto lv0 1
def lv2:St:=aInsert lv1 ⟨#[120]⟩ false
def lv3:St:=undoS lv2 false
def lv4:St:=aNarrow lv3 2 4
def lv5:St:=aGoto lv4 5
def lv6:St:=widS lv5
def lv7:St:=aGoto lv6 4
def lv8:St:=savS lv7
def lv9:St:=aGoto lv8 2
def lv10:St:=resS lv9 0
section
variable {N : Nat} {w : World}
set_option maxRecDepth 100000 in
set_option maxHeartbeats 8000000 in
theorem lives_ok (hT:Tabs N w) (hR:Rules N w) (hN:N<=w.heap.size) :
  Calls Tryz.prog 12 #[] w fun r w'=>r=.returned (.bool true)/\Below w.heap.size w w':=by
 have HN:=qH hN
 have hw:=with_ok hT hR hN ⟨#[104,101,108,108,111]⟩ (by decide)
 rw[show(charsD (ByteArray.mk #[104,101,108,108,111]).data.toList).isSome=true from rfl] at hw
 have HW:=qH hw
 clear hT hR hN hw
 go_enter Tryz.func12,Tryz.ntmps12
 go_wp2_with fail
 refine HW.out.mono ?_
 rintro e w1 ⟨b,rfl,hS,_⟩
 have S:Hid (Sb N w w.heap.size b w1 lv0):=qH (hS (by first|trivial|rfl))
 clear hS HW
 have hg:=S.out.call HN.out (s2:=lv1) (fun a hg=>Goto_ok hg (Pos.ofB (by decide +kernel)) 1)
 rw[(by decide +kernel:errB 3 (reachS lv0 1 1)=0)] at hg
 have HG:=qH hg
 clear hg
 go_wp2_with fail
 refine HG.out.mono ?_
 rintro e w2 ⟨rfl,hS⟩
 clear S
 have S:=qH hS
 clear hS HG
 have hg:=S.out.call HN.out (s2:=lv2) (fun a hg=>Insert_ok hg (Pos.ofB (by decide +kernel)) ⟨#[120]⟩ (by decide))
 rw[(by decide +kernel:isE lv1 ⟨#[120]⟩=0)] at hg
 have HG:=qH hg
 clear hg
 go_wp2_with fail
 refine HG.out.mono ?_
 rintro e w3 ⟨rfl,hS⟩
 clear S
 have S:=qH hS
 clear hS HG
 have hg:=S.out.read (fun a hg=>All_ok hg)
 rw[(by decide +kernel:encS lv2.cs=⟨#[120,104,101,108,108,111]⟩)] at hg
 have HG:=qH hg
 clear hg
 go_wp2_with fail
 refine HG.out.mono ?_
 rintro e w4 ⟨rfl,hS⟩
 clear S
 have S:=qH hS
 clear hS HG
 have hg:=S.out.call HN.out (s2:=lv3) (fun a hg=>Undo_ok hg (Pos.ofB (by decide +kernel)) (LgLe.ofB (by omega) (by decide +kernel)) false)
 rw[(by decide +kernel:undoE lv2 false=0)] at hg
 have HG:=qH hg
 clear hg
 go_wp2_with fail
 refine HG.out.mono ?_
 rintro e w5 ⟨rfl,hS⟩
 clear S
 have S:=qH hS
 clear hS HG
 have hg:=S.out.read (fun a hg=>All_ok hg)
 rw[(by decide +kernel:encS lv3.cs=⟨#[104,101,108,108,111]⟩)] at hg
 have HG:=qH hg
 clear hg
 go_wp2_with fail
 refine HG.out.mono ?_
 rintro e w6 ⟨rfl,hS⟩
 clear S
 have S:=qH hS
 clear hS HG
 have hg:=S.out.read (fun a hg=>Point_ok hg)
 rw[(by decide +kernel:lv3.pt=1)] at hg
 have HG:=qH hg
 clear hg
 go_wp2_with fail
 refine HG.out.mono ?_
 rintro e w7 ⟨rfl,hS⟩
 clear S
 have S:=qH hS
 clear hS HG
 have hg:=S.out.call HN.out (s2:=lv4) (fun a hg=>Narrow_ok hg (Pos.ofB (by decide +kernel)) 2 4)
 rw[(by decide +kernel:errB 3 (validS lv3 2 4)=0)] at hg
 have HG:=qH hg
 clear hg
 go_wp2_with fail
 refine HG.out.mono ?_
 rintro e w8 ⟨rfl,hS⟩
 clear S
 have S:=qH hS
 clear hS HG
 have hg:=S.out.read (fun a hg=>Point_ok hg)
 rw[(by decide +kernel:lv4.pt=2)] at hg
 have HG:=qH hg
 clear hg
 go_wp2_with fail
 refine HG.out.mono ?_
 rintro e w9 ⟨rfl,hS⟩
 clear S
 have S:=qH hS
 clear hS HG
 have hg:=S.out.call HN.out (s2:=lv5) (fun a hg=>Goto_ok hg (Pos.ofB (by decide +kernel)) 5)
 rw[(by decide +kernel:errB 3 (reachS lv4 5 5)=3)] at hg
 have HG:=qH hg
 clear hg
 go_wp2_with fail
 refine HG.out.mono ?_
 rintro e w10 ⟨rfl,hS⟩
 clear S
 have S:=qH hS
 clear hS HG
 have hg:=S.out.call HN.out (s2:=lv6) (fun a hg=>(Widen_ok hg).mono (fun r w' ⟨hr,ht⟩=>⟨hr,ht.to⟩))
 have HG:=qH hg
 clear hg
 go_wp2_with fail
 refine HG.out.mono ?_
 rintro e w11 ⟨rfl,hS⟩
 clear S
 have S:=qH hS
 clear hS HG
 have hg:=S.out.call HN.out (s2:=lv7) (fun a hg=>Goto_ok hg (Pos.ofB (by decide +kernel)) 4)
 rw[(by decide +kernel:errB 3 (reachS lv6 4 4)=0)] at hg
 have HG:=qH hg
 clear hg
 go_wp2_with fail
 refine HG.out.mono ?_
 rintro e w12 ⟨rfl,hS⟩
 clear S
 have S:=qH hS
 clear hS HG
 have hg:=S.out.call HN.out (s2:=lv8) (fun a hg=>Save_ok hg (by decide +kernel) (by decide +kernel))
 rw[(by decide +kernel:lv7.tokens=0)] at hg
 have HG:=qH hg
 clear hg
 go_wp2_with fail
 refine HG.out.mono ?_
 rintro e w13 ⟨rfl,hS⟩
 clear S
 have S:=qH hS
 clear hS HG
 have hg:=S.out.call HN.out (s2:=lv9) (fun a hg=>Goto_ok hg (Pos.ofB (by decide +kernel)) 2)
 rw[(by decide +kernel:errB 3 (reachS lv8 2 2)=0)] at hg
 have HG:=qH hg
 clear hg
 go_wp2_with fail
 refine HG.out.mono ?_
 rintro e w14 ⟨rfl,hS⟩
 clear S
 have S:=qH hS
 clear hS HG
 have hg:=S.out.call HN.out (s2:=lv10) (fun a hg=>Restore_ok hg (Pos.ofB (by decide +kernel)) 0 (by decide +kernel))
 rw[(by decide +kernel:resE lv9 0=0)] at hg
 have HG:=qH hg
 clear hg
 go_wp2_with fail
 refine HG.out.mono ?_
 rintro e w15 ⟨rfl,hS⟩
 clear S
 have S:=qH hS
 clear hS HG
 have hg:=S.out.read (fun a hg=>Point_ok hg)
 rw[(by decide +kernel:lv10.pt=4)] at hg
 have HG:=qH hg
 clear hg
 go_wp2_with fail
 refine HG.out.mono ?_
 rintro e w16 ⟨rfl,hS⟩
 clear S
 have S:=qH hS
 clear hS HG
 go_wp2_with fail
 go_ret
 exact⟨rfl,S.out.bl⟩
end
end Go.Proofs.YtkpoodjhjfmfjaaGreatDoor
namespace Go.Proofs.YtkpoodjhjfmfjaaGreatDoor
open Go.RowKit Go.Lib
open Ovs (PropE encP eltP)
def nm0:St:=withS ⟨#[97,98,99,100]⟩
def nm1:St:=aMarker nm0 3 false
def nm2:St:=aMarker nm1 2 true
def nm3:St:=prS nm2 2 4 9 (some (0,5))
def nm4:St:=bndS nm3
def nm5:St:={ nm4 with clean:=nm4.tick }
def nm6:St:=aDelete nm5 2 4
def nm7:St:=aInsert nm6 ⟨#[122,122]⟩ false
def nm8:St:=undoS nm7 false
def nm9:St:=prS nm8 2 4 3 (some (1,1))
def nm10:St:=aPut nm9 3 ⟨#[113]⟩
def nm11:St:=aPut nm10 2 ⟨#[113]⟩
def nm12:St:=aDelete nm11 3 4
def nm13:St:=aReplace nm12 1 2 ⟨#[114]⟩
def nm14:St:={ nm13 with fo:=true }
def nm15:St:=aPut nm14 4 ⟨#[117]⟩
def nm16:St:={ nm15 with fo:=false }
def nm17:St:={ nm16 with ro:=true }
def nm18:St:=aPut nm17 1 ⟨#[]⟩
def nm19:St:=undoS nm18 false
def nm20:St:=prS nm19 1 2 9 (some (1,1))
def nm21:St:={ nm20 with ro:=false }
def nm22:St:=sundS nm21 false
def nm23:St:=undoS nm22 false
def nm24:St:=resS nm23 7
def nm25:St:=aMove nm24 9 1
def nm26:St:=aMove nm25 0 99
section
variable {N : Nat} {w : World}
set_option maxRecDepth 100000 in
set_option maxHeartbeats 16000000 in
theorem names_true (hT:Tabs N w) (hR:Rules N w) (hN:N<=w.heap.size) :
  Calls Tryz.prog 3 #[] w fun r w'=>r=.returned (.bool true)/\Below w.heap.size w w':=by
 have HN:=qH hN
 have hw:=with_ok hT hR hN ⟨#[97,98,99,100]⟩ (by decide)
 rw[show(charsD (ByteArray.mk #[97,98,99,100]).data.toList).isSome=true from rfl] at hw
 have HW:=qH hw
 clear hT hR hN hw
 go_enter Tryz.func3,Tryz.ntmps3
 go_wp2_with fail
 refine HW.out.mono ?_
 rintro e w1 ⟨b,rfl,hS,_⟩
 have S:Hid (Sb N w w.heap.size b w1 nm0):=qH (hS (by first|trivial|rfl))
 clear hS HW
 have HL:Hid (Calls Tryz.prog 12 #[] w1 fun r w'=>r=.returned (.bool true)/\Below w1.heap.size w1 w'):=by
  obtain⟨a,hg⟩:=S.out.gb
  exact qH (lives_ok hg.tabs hg.rules hg.sz)
 go_wp2_with fail
 refine HL.out.mono ?_
 rintro e wl ⟨rfl,hb⟩
 have S1:=qH (S.out.up hb)
 clear S HL hb
 have S:=S1
 clear S1
 have hg:=S.out.call HN.out (s2:=nm1) (fun a hg=>AddMarker_ok hg (Pos.ofB (by decide +kernel)) 3 false (by decide +kernel))
 rw[if_pos (by decide +kernel:errB 3 (validS nm0 3 3)=0)] at hg
 rw[(by decide +kernel:(Mks.addR nm0.M nm0.mn 3 false).ret=0)] at hg
 rw[(by decide +kernel:(Mks.addR nm0.M nm0.mn 3 false).err=0)] at hg
 have HG:=qH hg
 clear hg
 go_wp2_with fail
 refine HG.out.mono ?_
 rintro e w2 ⟨rfl,hS⟩
 clear S
 have S:=qH hS
 clear hS HG
 have hg:=S.out.call HN.out (s2:=nm2) (fun a hg=>AddMarker_ok hg (Pos.ofB (by decide +kernel)) 2 true (by decide +kernel))
 rw[if_pos (by decide +kernel:errB 3 (validS nm1 2 2)=0)] at hg
 rw[(by decide +kernel:(Mks.addR nm1.M nm1.mn 2 true).ret=1)] at hg
 rw[(by decide +kernel:(Mks.addR nm1.M nm1.mn 2 true).err=0)] at hg
 have HG:=qH hg
 clear hg
 go_wp2_with fail
 refine HG.out.mono ?_
 rintro e w3 ⟨rfl,hS⟩
 clear S
 have S:=qH hS
 clear hS HG
 go_wp2_with fail
 refine(Ovs.kint_any 5 _).mono ?_
 rintro e w4 ⟨rfl,hb⟩
 have S1:=qH (S.out.up hb)
 clear S
 have S:=S1
 clear S1 hb
 go_wp2_with fail
 have hg:=S.out.call HN.out (s2:=nm3) (fun a hg=>PutProp_ok hg (Pos.ofB (by decide +kernel)) 2 4 9 0 5)
 rw[(by decide +kernel:prR nm2 2 4 9 (some (0,5))=0)] at hg
 have HG:=qH hg
 clear hg
 go_wp2_with fail
 refine HG.out.mono ?_
 rintro e w5 ⟨rfl,hS⟩
 clear S
 have S:=qH hS
 clear hS HG
 have hg:=S.out.call HN.out (s2:=nm4) (fun a hg=>(Boundary_ok hg).mono (fun r w' ⟨hr,ht⟩=>⟨hr,ht.to⟩))
 have HG:=qH hg
 clear hg
 go_wp2_with fail
 refine HG.out.mono ?_
 rintro e w6 ⟨rfl,hS⟩
 clear S
 have S:=qH hS
 clear hS HG
 have hg:=S.out.call HN.out (s2:=nm5) (fun a hg=>(Clean_ok hg).mono (fun r w' ⟨hr,ht⟩=>⟨hr,ht.to⟩))
 have HG:=qH hg
 clear hg
 go_wp2_with fail
 refine HG.out.mono ?_
 rintro e w7 ⟨rfl,hS⟩
 clear S
 have S:=qH hS
 clear hS HG
 have hg:=S.out.call HN.out (s2:=nm6) (fun a hg=>Delete_ok hg (Pos.ofB (by decide +kernel)) 2 4)
 rw[(by decide +kernel:dlE nm5 2 4=0)] at hg
 have HG:=qH hg
 clear hg
 go_wp2_with fail
 refine HG.out.mono ?_
 rintro e w8 ⟨rfl,hS⟩
 clear S
 have S:=qH hS
 clear hS HG
 have hg:=S.out.read (fun a hg=>Marker_ok hg 0)
 rw[(by decide +kernel:atM nm6.M 0=2)] at hg
 rw[(by decide +kernel:(lookM nm6.M 0).isSome=true)] at hg
 have HG:=qH hg
 clear hg
 go_wp2_with fail
 refine HG.out.mono ?_
 rintro e w9 ⟨rfl,hS⟩
 clear S
 have S:=qH hS
 clear hS HG
 have hg:=S.out.call HN.out (s2:=nm7) (fun a hg=>Insert_ok hg (Pos.ofB (by decide +kernel)) ⟨#[122,122]⟩ (by decide))
 rw[(by decide +kernel:isE nm6 ⟨#[122,122]⟩=0)] at hg
 have HG:=qH hg
 clear hg
 go_wp2_with fail
 refine HG.out.mono ?_
 rintro e w10 ⟨rfl,hS⟩
 clear S
 have S:=qH hS
 clear hS HG
 have hg:=S.out.read (fun a hg=>Modified_ok hg)
 rw[(by decide +kernel:(!((nm7.tick:Int) ==(nm7.clean:Int)))=true)] at hg
 have HG:=qH hg
 clear hg
 go_wp2_with fail
 refine HG.out.mono ?_
 rintro e w11 ⟨rfl,hS⟩
 clear S
 have S:=qH hS
 clear hS HG
 have hg:=S.out.call HN.out (s2:=nm8) (fun a hg=>Undo_ok hg (Pos.ofB (by decide +kernel)) (LgLe.ofB (by omega) (by decide +kernel)) false)
 rw[(by decide +kernel:undoE nm7 false=0)] at hg
 have HG:=qH hg
 clear hg
 go_wp2_with fail
 refine HG.out.mono ?_
 rintro e w12 ⟨rfl,hS⟩
 clear S
 have S:=qH hS
 clear hS HG
 have hg:=S.out.read (fun a hg=>Marker_ok hg 0)
 rw[(by decide +kernel:atM nm8.M 0=3)] at hg
 rw[(by decide +kernel:(lookM nm8.M 0).isSome=true)] at hg
 have HG:=qH hg
 clear hg
 go_wp2_with fail
 refine HG.out.mono ?_
 rintro e w13 ⟨rfl,hS⟩
 clear S
 have S:=qH hS
 clear hS HG
 have hg:=S.out.read (fun a hg=>Marker_ok hg 1)
 rw[(by decide +kernel:atM nm8.M 1=2)] at hg
 rw[(by decide +kernel:(lookM nm8.M 1).isSome=true)] at hg
 have HG:=qH hg
 clear hg
 go_wp2_with fail
 refine HG.out.mono ?_
 rintro e w14 ⟨rfl,hS⟩
 clear S
 have S:=qH hS
 clear hS HG
 have hg:=S.out.read (fun a hg=>Prop_ok hg 3 9)
 rw[(by decide +kernel:getP nm8.P 3 9=some (0,5))] at hg
 unfold getV2 at hg
 simp only[Option.getD_some,Option.isSome_some] at hg
 have HG:=qH hg
 clear hg
 go_wp2_with fail
 refine HG.out.mono ?_
 rintro e w15 ⟨rfl,hS⟩
 clear S
 have S:=qH hS
 clear hS HG
 go_wp2_with fail
 have hal:=below1 w15 (.cells #[.int .i64 0,.int .i64 5] 31)
 have HKA:=qH (Blk.made w15 31 #[.int .i64 0,.int .i64 5])
 have S1:=qH (S.out.up hal)
 clear S hal
 have S:=S1
 clear S1
 generalize w15.alloc (.cells #[.int .i64 0,.int .i64 5] 31)=WW at *
 have X0:∀ X:UpW WW.heap.size WW,X.w.cell? ⟨w15.heap.size,0,none⟩=some (.int .i64 0):=fun X=>(HKA.out.up X.up).cell (j:=0) rfl
 have X1:∀ X:UpW WW.heap.size WW,X.w.cell? ⟨w15.heap.size,1,none⟩=some (.int .i64 5):=fun X=>(HKA.out.up X.up).cell (j:=1) rfl
 obtain⟨aR,hgR⟩:=S.out.gb
 have HGR:=qH hgR
 have D0:=qH ((Below.refl WW.heap.size WW).drew)
 have hA:=All_ok (HGR.out.up D0.out)
 rw[(by decide +kernel:encS nm8.cs=⟨#[97,98,99,100]⟩)] at hA
 have HA:=qH hA
 clear hA hgR
 refine wp_region_mix WW.heap.size 52 [([0,1,2,3,4,5,6,7,8,9,10,11,12,13,14,15,16,17,18,19,20,21,22,23,24,25,26,27],28),([29,30,31,32,33,34,35,36,37,38,39,40,41,42,43,44],45),([46,47,48,49],50)] [51] (by kernel_rfl) (fun c d v a w h=>by cases d<;>exact h) (by kernel_rfl) ?_
 simp only[wpMix,pk_nil,pk_cons,pushAt_zero,pushAt_succ,List.drop_succ_cons,List.drop_zero]
 repeat (go_big_quiet_step (fail))
 refine wpQuiet_nil ?_
 go_wp2_with fail
 refine HA.out.mono ?_
 rintro e wA ⟨rfl,hb⟩
 have D1:=qH (up2 D0.out hb)
 clear hb HA D0
 go_wp2_with fail
 refine thenQ_normal ⟨⟨⟨_,D1.out⟩,rfl⟩,?_⟩
 repeat (go_big_quiet_step (fail))
 refine wpQuiet_nil ?_
 go_wp2_with fail
 refine(Ovs.kint_any 5 _).mono ?_
 rintro e wB ⟨rfl,hb⟩
 have D2:=qH (up2 D1.out hb)
 have hM:=Modified_ok (HGR.out.up D2.out)
 rw[(by decide +kernel:(!((nm8.tick:Int) ==(nm8.clean:Int)))=false)] at hM
 have HM:=qH hM
 clear hb hM D1
 go_wp2_with fail
 refine thenQ_normal ⟨⟨⟨_,D2.out⟩,rfl⟩,?_⟩
 repeat (go_big_quiet_step (fail))
 refine wpQuiet_nil ?_
 go_wp2_with fail
 refine HM.out.mono ?_
 rintro e wC ⟨rfl,hb⟩
 have D3:=qH (up2 D2.out hb)
 clear hb D2 HM
 go_wp2_with fail
 refine thenQ_normal ⟨⟨⟨_,D3.out⟩,rfl⟩,?_⟩
 repeat (go_big_quiet_step (fail))
 refine wpQuiet_nil ?_
 have S1:=qH (S.out.up D3.out)
 clear S D3 HGR X0 X1 HKA
 have S:=S1
 clear S1
 go_wp2_with fail
 refine(Ovs.kt_any _).mono ?_
 rintro e w16 ⟨rfl,hb⟩
 have S1:=qH (S.out.up hb)
 clear S
 have S:=S1
 clear S1 hb
 go_wp2_with fail
 have hg:=S.out.call HN.out (s2:=nm9) (fun a hg=>PutProp_ok hg (Pos.ofB (by decide +kernel)) 2 4 3 1 1)
 rw[(by decide +kernel:prR nm8 2 4 3 (some (1,1))=0)] at hg
 have HG:=qH hg
 clear hg
 go_wp2_with fail
 refine HG.out.mono ?_
 rintro e w17 ⟨rfl,hS⟩
 clear S
 have S:=qH hS
 clear hS HG
 have hg:=S.out.call HN.out (s2:=nm10) (fun a hg=>Put_ok hg (Pos.ofB (by decide +kernel)) 3 ⟨#[113]⟩ (by decide))
 rw[(by decide +kernel:plE nm9 3 ⟨#[113]⟩=14)] at hg
 have HG:=qH hg
 clear hg
 go_wp2_with fail
 refine HG.out.mono ?_
 rintro e w18 ⟨rfl,hS⟩
 clear S
 have S:=qH hS
 clear hS HG
 have hg:=S.out.call HN.out (s2:=nm11) (fun a hg=>Put_ok hg (Pos.ofB (by decide +kernel)) 2 ⟨#[113]⟩ (by decide))
 rw[(by decide +kernel:plE nm10 2 ⟨#[113]⟩=0)] at hg
 have HG:=qH hg
 clear hg
 go_wp2_with fail
 refine HG.out.mono ?_
 rintro e w19 ⟨rfl,hS⟩
 clear S
 have S:=qH hS
 clear hS HG
 have hg:=S.out.call HN.out (s2:=nm12) (fun a hg=>Delete_ok hg (Pos.ofB (by decide +kernel)) 3 4)
 rw[(by decide +kernel:dlE nm11 3 4=14)] at hg
 have HG:=qH hg
 clear hg
 go_wp2_with fail
 refine HG.out.mono ?_
 rintro e w20 ⟨rfl,hS⟩
 clear S
 have S:=qH hS
 clear hS HG
 have hg:=S.out.call HN.out (s2:=nm13) (fun a hg=>Replace_ok hg (Pos.ofB (by decide +kernel)) 1 2 ⟨#[114]⟩ (by decide))
 rw[(by decide +kernel:repEr nm12 1 2 ⟨#[114]⟩=0)] at hg
 have HG:=qH hg
 clear hg
 go_wp2_with fail
 refine HG.out.mono ?_
 rintro e w21 ⟨rfl,hS⟩
 clear S
 have S:=qH hS
 clear hS HG
 have hg:=S.out.call HN.out (s2:=nm14) (fun a hg=>(SetForce_ok hg true).mono (fun r w' ⟨hr,ht⟩=>⟨hr,ht.to⟩))
 have HG:=qH hg
 clear hg
 go_wp2_with fail
 refine HG.out.mono ?_
 rintro e w22 ⟨rfl,hS⟩
 clear S
 have S:=qH hS
 clear hS HG
 have hg:=S.out.call HN.out (s2:=nm15) (fun a hg=>Put_ok hg (Pos.ofB (by decide +kernel)) 4 ⟨#[117]⟩ (by decide))
 rw[(by decide +kernel:plE nm14 4 ⟨#[117]⟩=0)] at hg
 have HG:=qH hg
 clear hg
 go_wp2_with fail
 refine HG.out.mono ?_
 rintro e w23 ⟨rfl,hS⟩
 clear S
 have S:=qH hS
 clear hS HG
 have hg:=S.out.call HN.out (s2:=nm16) (fun a hg=>(SetForce_ok hg false).mono (fun r w' ⟨hr,ht⟩=>⟨hr,ht.to⟩))
 have HG:=qH hg
 clear hg
 go_wp2_with fail
 refine HG.out.mono ?_
 rintro e w24 ⟨rfl,hS⟩
 clear S
 have S:=qH hS
 clear hS HG
 have hg:=S.out.call HN.out (s2:=nm17) (fun a hg=>(SetReadOnly_ok hg true).mono (fun r w' ⟨hr,ht⟩=>⟨hr,ht.to⟩))
 have HG:=qH hg
 clear hg
 go_wp2_with fail
 refine HG.out.mono ?_
 rintro e w25 ⟨rfl,hS⟩
 clear S
 have S:=qH hS
 clear hS HG
 have hg:=S.out.call HN.out (s2:=nm18) (fun a hg=>Put_ok hg (Pos.ofB (by decide +kernel)) 1 ⟨#[]⟩ (by decide))
 rw[(by decide +kernel:plE nm17 1 ⟨#[]⟩=14)] at hg
 have HG:=qH hg
 clear hg
 go_wp2_with fail
 refine HG.out.mono ?_
 rintro e w26 ⟨rfl,hS⟩
 clear S
 have S:=qH hS
 clear hS HG
 have hg:=S.out.call HN.out (s2:=nm19) (fun a hg=>Undo_ok hg (Pos.ofB (by decide +kernel)) (LgLe.ofB (by omega) (by decide +kernel)) false)
 rw[(by decide +kernel:undoE nm18 false=14)] at hg
 have HG:=qH hg
 clear hg
 go_wp2_with fail
 refine HG.out.mono ?_
 rintro e w27 ⟨rfl,hS⟩
 clear S
 have S:=qH hS
 clear hS HG
 go_wp2_with fail
 refine(Ovs.kt_any _).mono ?_
 rintro e w28 ⟨rfl,hb⟩
 have S1:=qH (S.out.up hb)
 clear S
 have S:=S1
 clear S1 hb
 go_wp2_with fail
 have hg:=S.out.call HN.out (s2:=nm20) (fun a hg=>PutProp_ok hg (Pos.ofB (by decide +kernel)) 1 2 9 1 1)
 rw[(by decide +kernel:prR nm19 1 2 9 (some (1,1))=14)] at hg
 have HG:=qH hg
 clear hg
 go_wp2_with fail
 refine HG.out.mono ?_
 rintro e w29 ⟨rfl,hS⟩
 clear S
 have S:=qH hS
 clear hS HG
 have hg:=S.out.call HN.out (s2:=nm21) (fun a hg=>(SetReadOnly_ok hg false).mono (fun r w' ⟨hr,ht⟩=>⟨hr,ht.to⟩))
 have HG:=qH hg
 clear hg
 go_wp2_with fail
 refine HG.out.mono ?_
 rintro e w30 ⟨rfl,hS⟩
 clear S
 have S:=qH hS
 clear hS HG
 have hg:=S.out.call HN.out (s2:=nm22) (fun a hg=>(SetUndo_ok hg false).mono (fun r w' ⟨hr,ht⟩=>⟨hr,ht.to⟩))
 have HG:=qH hg
 clear hg
 go_wp2_with fail
 refine HG.out.mono ?_
 rintro e w31 ⟨rfl,hS⟩
 clear S
 have S:=qH hS
 clear hS HG
 have hg:=S.out.call HN.out (s2:=nm23) (fun a hg=>Undo_ok hg (Pos.ofB (by decide +kernel)) (LgLe.ofB (by omega) (by decide +kernel)) false)
 rw[(by decide +kernel:undoE nm22 false=9)] at hg
 have HG:=qH hg
 clear hg
 go_wp2_with fail
 refine HG.out.mono ?_
 rintro e w32 ⟨rfl,hS⟩
 clear S
 have S:=qH hS
 clear hS HG
 have hg:=S.out.read (fun a hg=>Changes0_ok hg (by decide +kernel))
 have HG:=qH hg
 clear hg
 go_wp2_with fail
 refine HG.out.mono ?_
 rintro e w33 ⟨rfl,hS⟩
 clear S
 have S:=qH hS
 clear hS HG
 have hg:=S.out.call HN.out (s2:=nm24) (fun a hg=>Restore_ok hg (Pos.ofB (by decide +kernel)) 7 (by decide +kernel))
 rw[(by decide +kernel:resE nm23 7=8)] at hg
 have HG:=qH hg
 clear hg
 go_wp2_with fail
 refine HG.out.mono ?_
 rintro e w34 ⟨rfl,hS⟩
 clear S
 have S:=qH hS
 clear hS HG
 have hg:=S.out.call HN.out (s2:=nm25) (fun a hg=>MoveMarker_ok hg (Pos.ofB (by decide +kernel)) 9 1)
 rw[if_neg (by decide +kernel:¬ mmE nm24 9 1=0)] at hg
 rw[(by decide +kernel:mmE nm24 9 1=8)] at hg
 have HG:=qH hg
 clear hg
 go_wp2_with fail
 refine HG.out.mono ?_
 rintro e w35 ⟨rfl,hS⟩
 clear S
 have S:=qH hS
 clear hS HG
 have hg:=S.out.call HN.out (s2:=nm26) (fun a hg=>MoveMarker_ok hg (Pos.ofB (by decide +kernel)) 0 99)
 rw[if_neg (by decide +kernel:¬ mmE nm25 0 99=0)] at hg
 rw[(by decide +kernel:mmE nm25 0 99=3)] at hg
 have HG:=qH hg
 clear hg
 go_wp2_with fail
 refine HG.out.mono ?_
 rintro e w36 ⟨rfl,hS⟩
 clear S
 have S:=qH hS
 clear hS HG
 have hg:=S.out.read (fun a hg=>All_ok hg)
 rw[(by decide +kernel:encS nm26.cs=⟨#[114,113,98,117,99,100]⟩)] at hg
 have HG:=qH hg
 clear hg
 go_wp2_with fail
 refine HG.out.mono ?_
 rintro e w37 ⟨rfl,hS⟩
 clear S
 have S:=qH hS
 clear hS HG
 go_wp2_with fail
 go_ret
 exact⟨rfl,S.out.bl⟩
end
end Go.Proofs.YtkpoodjhjfmfjaaGreatDoor
