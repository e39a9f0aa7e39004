/- A part. -/
import Derived.Test.YtkpoodjhjfmfjaaGreatDoorZ06
import Derived.Test.YtkpoodjhjfmfjaaGreatDoorZ07
import Derived.Test.YtkpoodjhjfmfjaaGreatDoorZ00
set_option linter.unusedVariables false
set_option linter.unusedSimpArgs false
namespace Go.Proofs.YtkpoodjhjfmfjaaGreatDoor
open Go.RowKit Go.Lib
abbrev Sl3:=Option Addr × Nat × Nat
abbrev sl3 (x:Sl3):Value:=.slice x.1 x.2.1 x.2.2
def logFoot (l:Nat) (gv ov:Value) (vs:List Sl3) (k:Nat):Prop:=k=l\/gv.ownBlock=some k\/ov.ownBlock=some k\/∃ x ∈ vs,(sl3 x).ownBlock=some k
structure LogX (w:World) (l:Nat) (gv ov:Value) (vs:List Sl3) (G:List (List Chg)) (O:List Chg) (ch co nw:Int):Prop where
 blk:Blk w l 176 (logC gv ov ch co nw)
 gr:OOwn encG 117 1 w gv vs
 len:vs.length=G.length
 rows:∀(i:Nat) (x:Sl3) (g:List Chg),vs[i]?=some x->G[i]?=some g->ROwn encCg 121 9 0 w (sl3 x) g/\0<g.length
 op:ROwn encCg 121 9 0 w ov O
 nil:O=[]->ov=.slice none 0 0
 s1:∀ k,ov.ownBlock=some k->k≠l/\gv.ownBlock≠some k
 s2:∀ k,gv.ownBlock=some k->k≠l
 s3:∀ x ∈ vs,∀ k,(sl3 x).ownBlock=some k->k≠l/\gv.ownBlock≠some k/\ov.ownBlock≠some k
 pw:vs.Pairwise (fun x y=>∀ k,(sl3 x).ownBlock=some k->(sl3 y).ownBlock≠some k)
section
variable {w w' : World} {l : Nat} {gv ov : Value} {vs : List Sl3} {G : List (List Chg)} {O : List Chg} {ch co nw : Int}
theorem LogX.foot_lt (h:LogX w l gv ov vs G O ch co nw) {k:Nat} (hk:logFoot l gv ov vs k):k<w.heap.size:=by
 rcases hk with rfl|hk|hk|⟨x,hx,hk⟩
 ·exact h.blk.lt
 ·exact h.gr.lt hk
 ·exact h.op.lt hk
 ·obtain⟨i,hi⟩:=List.getElem?_of_mem hx
  have hl:=(List.getElem?_eq_some_iff.1 hi).1
  rw[h.len] at hl
  exact(h.rows i x _ hi (List.getElem?_eq_getElem hl)).1.lt hk
theorem LogX.kept (h:LogX w l gv ov vs G O ch co nw) (hk:∀ k,logFoot l gv ov vs k->w'.heap[k]?=w.heap[k]?):LogX w' l gv ov vs G O ch co nw:=
 ⟨h.blk.kept (hk l (.inl rfl)),h.gr.kept (fun k e=>hk k (.inr (.inl e))),h.len,fun i x g h1 h2=>⟨(h.rows i x g h1 h2).1.kept (fun k e=>hk k (.inr (.inr (.inr ⟨x,List.mem_of_getElem? h1,e⟩)))),(h.rows i x g h1 h2).2⟩,
  h.op.kept (fun k e=>hk k (.inr (.inr (.inl e)))),h.nil,h.s1,h.s2,h.s3,h.pw⟩
theorem LogX.up (h:LogX w l gv ov vs G O ch co nw) (hb:Below w.heap.size w w'):LogX w' l gv ov vs G O ch co nw:=h.kept (fun k hk=>hb.block k (h.foot_lt hk))
theorem LogX.only {S:Nat->Prop} (h:LogX w l gv ov vs G O ch co nw) (ho:Only S w w') (hd:∀ k,logFoot l gv ov vs k->¬ S k):LogX w' l gv ov vs G O ch co nw:=h.kept (fun k hk=>ho.block k (h.foot_lt hk) (hd k hk))
def LogTo (w:World) (l:Nat) (gv ov:Value) (vs:List Sl3) (G:List (List Chg)) (O:List Chg) (ch co nw:Int) (w':World):Prop:=
 Only (logFoot l gv ov vs) w w'/\∃ gv' ov' vs',LogX w' l gv' ov' vs' G O ch co nw/\∀ k,logFoot l gv' ov' vs' k->logFoot l gv ov vs k\/w.heap.size<=k
theorem ladd {N:Nat} {c:Chg} (h:LogX w l gv ov vs G O ch co nw) (hOl:O.length<=1100000) (hok:ChgOk c) (hT:Tabs N w) (hR:Rules N w) (h0:0<=nw) (h1:nw+priceC c<=1048576) (h2:0<=co) (h3:co<=100000000) :
  Calls Tryz.prog 219 #[.pointer (some ⟨l,0,none⟩),chgV c] w fun e w'=>e=.returned (.int .i64 0)/\LogTo w l gv ov vs G (logAdd O c) ch (co+addCost O c) (nw+addCost O c) w':=by
 refine(gadd h.nil h.op hOl (fun k hk=>(h.s1 k hk).1) hok hT hR h.blk h0 h1 h2 h3).mono ?_
 rintro e w' ⟨he,v',hown,hblk,hon,hfr⟩
 have hkeep:∀ k,k<w.heap.size->k≠l->ov.ownBlock≠some k->w'.heap[k]?=w.heap[k]?:=fun k h1 h2 h3=>hon.block k h1 (fun e=>e.elim h2 h3)
 refine⟨he,hon.mono (fun k hk=>hk.elim .inl (fun h=>.inr (.inr (.inl h)))),gv,v',vs,⟨hblk,h.gr.kept (fun k e=>hkeep k (h.gr.lt e) (h.s2 k e) (fun e2=>(h.s1 k e2).2 e)),h.len,fun i x g h1 h2=>⟨?_,(h.rows i x g h1 h2).2⟩,hown,fun e=>?_,?_,h.s2,?_,h.pw⟩,?_⟩
 ·have hx:=List.mem_of_getElem? h1
  exact(h.rows i x g h1 h2).1.kept (fun k e=>hkeep k ((h.rows i x g h1 h2).1.lt e) (h.s3 x hx k e).1 (h.s3 x hx k e).2.2)
 ·exfalso
  unfold logAdd at e
  split at e<;>simp at e
 ·intro k hk
  rcases hfr k hk with e|e
  ·exact h.s1 k e
  ·exact⟨by have:=h.blk.lt;omega,fun e2=>by have:=h.gr.lt e2;omega⟩
 ·intro x hx k hk
  refine⟨(h.s3 x hx k hk).1,(h.s3 x hx k hk).2.1,fun e=>?_⟩
  rcases hfr k e with e|e
  ·exact(h.s3 x hx k hk).2.2 e
  ·have:=h.foot_lt (.inr (.inr (.inr ⟨x,hx,hk⟩)));omega
 ·intro k hk
  rcases hk with rfl|hk|hk|hk
  ·exact .inl (.inl rfl)
  ·exact .inl (.inr (.inl hk))
  ·exact(hfr k hk).elim (fun e=>.inl (.inr (.inr (.inl e)))) .inr
  ·exact .inl (.inr (.inr (.inr hk)))
def costL (O:List Chg):Nat:=(O.map priceC).sum
def costG (G:List (List Chg)):Nat:=(G.map costL).sum
theorem costL_append (a b:List Chg):costL (a++b)=costL a+costL b:=by simp[costL]
theorem costL_cons (c:Chg) (b:List Chg):costL (c :: b)=priceC c+costL b:=by simp[costL]
theorem costG_cons (g:List Chg) (G:List (List Chg)):costG (g :: G)=costL g+costG G:=by simp[costG]
theorem costG_append (a b:List (List Chg)):costG (a++b)=costG a+costG b:=by simp[costG]
theorem priceC_pos (c:Chg):1<=priceC c:=by unfold priceC;split<;>omega
theorem costL_len:∀ O:List Chg,O.length<=costL O
 | []=>by simp
 | c :: O=>by rw[costL_cons,List.length_cons];have:=costL_len O;have:=priceC_pos c;omega
theorem costL_take {O:List Chg} {i:Nat} {c:Chg} (h:O[i]?=some c):costL (O.take (i+1))=costL (O.take i)+priceC c:=by
 rw[List.take_add_one,h,costL_append];simp[costL]
theorem costL_take_le (O:List Chg) (i:Nat):costL (O.take i)<=costL O:=by
 have:=costL_append (O.take i) (O.drop i)
 rw[List.take_append_drop] at this;omega
def dropG:List (List Chg)->Int->List (List Chg) × Int
 | g :: g2 :: r,ch=>if 1048576<costG (g :: g2 :: r) then dropG (g2 :: r) (if 0<ch then ch - 1 else ch) else (g :: g2 :: r,ch)
 | G,ch=>(G,ch)
def logShut (G:List (List Chg)) (O:List Chg):List (List Chg):=if O=[] then G else G++[O]
theorem dropG_le {G:List (List Chg)} {ch:Int} (h:costG G<=1048576):dropG G ch=(G,ch):=by
 match G with
 | []=>rfl
 | [g]=>rfl
 | g :: g2 :: r=>rw[dropG,if_neg (by omega)]
theorem dropG_one {G:List (List Chg)} {ch:Int} (h:G.length<=1):dropG G ch=(G,ch):=by
 match G with
 | []=>rfl
 | [g]=>rfl
 | g :: g2 :: r=>simp at h
theorem dropG_step {g:List Chg} {G:List (List Chg)} {ch:Int} (h:1048576<costG (g :: G)) (h2:1<=G.length):dropG (g :: G) ch=dropG G (if 0<ch then ch - 1 else ch):=by
 match G with
 | []=>simp at h2
 | g2 :: r=>rw[dropG,if_pos h]
set_option maxRecDepth 100000 in
set_option maxHeartbeats 1000000 in
theorem lclear (h:LogX w l gv ov vs G O ch co nw) :
  Calls Tryz.prog 92 #[pAt l] w fun r w'=>r=.returned (.int .i64 0)/\LogTo w l gv ov vs [] [] (-1) 0 0 w':=by
 have HN:=qH (gnoneL h.blk)
 have f1:=h.blk.fz 1
 have f2:=h.blk.fz 2
 have f3:=h.blk.fz 3
 have f4:=h.blk.fz 4
 have f5:=h.blk.fz 5
 have c1:=h.blk.cell (j:=1) rfl
 have c2:=h.blk.cell (j:=2) rfl
 have c3:=h.blk.cell (j:=3) rfl
 have c4:=h.blk.cell (j:=4) rfl
 have c5:=h.blk.cell (j:=5) rfl
 have h5:=((((h.blk.set (j:=1) (by simp) (.slice none 0 0)).set (j:=2) (by simp) (.slice none 0 0)).set (j:=3) (by simp) (.int .i64 (-1))).set (j:=4) (by simp) (.int .i64 0)).set (j:=5) (by simp) (.int .i64 0)
 have H5:=qH h5
 have HO:=qH ((((((Only.refl (fun k=>k=l) w).setCell (p:=⟨l,1,none⟩) rfl (.slice none 0 0)).setCell (p:=⟨l,2,none⟩) rfl (.slice none 0 0)).setCell (p:=⟨l,3,none⟩) rfl (.int .i64 (-1))).setCell (p:=⟨l,4,none⟩) rfl (.int .i64 0)).setCell (p:=⟨l,5,none⟩) rfl (.int .i64 0))
 clear h h5
 go_enter Tryz.func92,Tryz.ntmps92
 go_wp2_with fail
 refine HN.out.mono ?_
 rintro e w' ⟨rfl,rfl⟩
 go_wp2_with fail
 go_ret
 refine⟨rfl,HO.out.mono (fun k hk=>.inl hk),.slice none 0 0,.slice none 0 0,[],⟨H5.out,OOwn.nil _,rfl,fun i x g h1 h2=>by simp at h1,ROwn.nil _ _,fun _=>rfl,fun k hk=>by simp[Value.ownBlock] at hk,fun k hk=>by simp[Value.ownBlock] at hk,fun x hx=>by simp at hx,List.Pairwise.nil⟩,?_⟩
 intro k hk
 rcases hk with rfl|hk|hk|⟨x,hx,_⟩
 ·exact .inl (.inl rfl)
 ·simp[Value.ownBlock] at hk
 ·simp[Value.ownBlock] at hk
 ·simp at hx
theorem LogX.setCo {k:Int} (h:LogX w l gv ov vs G O ch co nw):LogX (w.setCell ⟨l,4,none⟩ (.int .i64 k)) l gv ov vs G O ch k nw:=by
 have hk:∀ j,j≠l->(w.setCell ⟨l,4,none⟩ (.int .i64 k)).heap[j]?=w.heap[j]?:=fun j hj=>Below.heap_setCell _ _ _ _ hj
 exact⟨h.blk.set (j:=4) (by simp) (.int .i64 k),h.gr.kept (fun j e=>hk j (h.s2 j e)),h.len,fun i x g h1 h2=>⟨(h.rows i x g h1 h2).1.kept (fun j e=>hk j (h.s3 x (List.mem_of_getElem? h1) j e).1),(h.rows i x g h1 h2).2⟩,h.op.kept (fun j e=>hk j (h.s1 j e).1),h.nil,h.s1,h.s2,h.s3,h.pw⟩
theorem LogX.setChn {k:Int} (h:LogX w l gv ov vs G O ch co nw):LogX (w.setCell ⟨l,3,none⟩ (.int .i64 k)) l gv ov vs G O k co nw:=by
 have hk:∀ j,j≠l->(w.setCell ⟨l,3,none⟩ (.int .i64 k)).heap[j]?=w.heap[j]?:=fun j hj=>Below.heap_setCell _ _ _ _ hj
 exact⟨h.blk.set (j:=3) (by simp) (.int .i64 k),h.gr.kept (fun j e=>hk j (h.s2 j e)),h.len,fun i x g h1 h2=>⟨(h.rows i x g h1 h2).1.kept (fun j e=>hk j (h.s3 x (List.mem_of_getElem? h1) j e).1),(h.rows i x g h1 h2).2⟩,h.op.kept (fun j e=>hk j (h.s1 j e).1),h.nil,h.s1,h.s2,h.s3,h.pw⟩
theorem LogX.tailG {W3:World} {g:List Chg} {Gt:List (List Chg)} {x:Sl3} {vt:List Sl3} {gb o nv cap1 gx:Nat} (h:LogX w l (.slice (some ⟨gb,o,none⟩) nv cap1) ov (x :: vt) (g :: Gt) O ch co nw) (hx:(sl3 x).ownBlock=some gx) (ho:Only (·=gx) w W3) (hc:cap1≠1) :
  LogX (W3.setCell ⟨l,1,none⟩ (.slice (some ⟨gb,o+1,none⟩) (nv - 1) (cap1 - 1))) l (.slice (some ⟨gb,o+1,none⟩) (nv - 1) (cap1 - 1)) ov vt Gt O ch co nw:=by
 obtain⟨a1,a2,a3⟩:=h.s3 x (by simp) gx hx
 have hk:∀ k,k≠l->k≠gx->k<w.heap.size->(W3.setCell ⟨l,1,none⟩ (.slice (some ⟨gb,o+1,none⟩) (nv - 1) (cap1 - 1))).heap[k]?=w.heap[k]?:=fun k h1 h2 h3=>(Below.heap_setCell _ _ _ _ h1).trans (ho.block k h3 h2)
 have hgb:gb≠gx:=fun e=>a2 (by rw[e];rfl)
 have hpw:=List.pairwise_cons.1 h.pw
 obtain⟨hn,ht⟩:=h.gr.tail eltG
 rw[if_neg hc] at ht
 refine⟨(h.blk.only ho (fun e=>a1 e.symm)).set (j:=1) (by simp) _,?_,by have:=h.len;simpa using this,fun i y q h1 h2=>?_,h.op.kept (fun k e=>hk k (h.s1 k e).1 (fun e2=>a3 (e2▸e)) (h.op.lt e)),h.nil,fun k e=>⟨(h.s1 k e).1,(h.s1 k e).2⟩,fun k e=>h.s2 k e,fun y hy k e=>h.s3 y (by simp[hy]) k e,hpw.2⟩
 ·have h5:OOwn encG 117 1 w (.slice (some ⟨gb,o+1,none⟩) (nv - 1) (cap1 - 1)) vt:=ht
  exact h5.kept (fun k e=>hk k (h.s2 k e) (fun e2=>by subst e2;exact a2 e) (h5.lt e))
 ·have h3:=h.rows (i+1) y q h1 h2
  have hy:=List.mem_of_getElem? h1
  exact⟨h3.1.kept (fun k e=>hk k (h.s3 y (by simp[hy]) k e).1 (fun e2=>hpw.1 y hy gx hx (e2▸e)) (h3.1.lt e)),h3.2⟩
theorem zeroChg (w:World):(zeroValue 121).run Tryz.prog w=.ok (chgV chg0) w:=by kernel_rfl
def InR (l:Nat) (gv:Value) (vs:List Sl3) (G:List (List Chg)) (g:List Chg) (ch:Int) (wz:World) (vi:Value) (wr:World):Prop:=
 ∃ i:Nat,i<=g.length/\vi=.int .i64 i/\LogX wr l gv (.slice none 0 0) vs G [] ch ((costG G:Int) - costL (g.take i)) 0/\Only (fun k=>k=l) wz wr
def DropR (W:World) (l:Nat) (FT:Nat->Prop) (G0:List (List Chg)) (ch0:Int) (wr:World):Prop:=
 ∃ gv vs G ch,LogX wr l gv (.slice none 0 0) vs G [] ch (costG G) 0/\dropG G ch=dropG G0 ch0/\(∀ g ∈ G,∀ c ∈ g,ChgOk c)/\G.length<=3000000/\ch<=G.length/\costG G<=4000000/\Only FT W wr/\∀ k,logFoot l gv (.slice none 0 0) vs k->FT k
set_option maxRecDepth 100000 in
set_option maxHeartbeats 8000000 in
theorem lclose_none {N:Nat} (hT:Tabs N w) (h:LogX w l gv ov vs G [] ch (costG G) 0) (hK:∀ g ∈ G,∀ c ∈ g,ChgOk c) (hL:G.length<=2000000) (hcb:costG G<=3000000) (hch:ch<=G.length) (hN:∀ k,logFoot l gv ov vs k->N<=k) (hNs:N<=w.heap.size) :
  Calls Tryz.prog 144 #[pAt l] w fun r w'=>r=.returned (.tuple #[])/\LogTo w l gv ov vs (dropG G ch).1 [] (dropG G ch).2 (costG (dropG G ch).1) 0 w':=by
 have ho:=h.nil rfl
 subst ho
 have c2:=h.blk.cell (j:=2) rfl
 obtain⟨W,hW⟩:∃ W,W=w:=⟨_,rfl⟩
 obtain⟨FT,hFT⟩:∃ FT:Nat->Prop,FT=fun k=>logFoot l gv (.slice none 0 0) vs k\/w.heap.size<=k:=⟨_,rfl⟩
 obtain⟨G1,hG1⟩:∃ G1,G1=G:=⟨_,rfl⟩
 have LX:=qH (⟨(hW▸hG1▸h:LogX W l gv (.slice none 0 0) vs G1 [] ch (costG G1) 0),(hG1▸hK:∀ g ∈ G1,∀ c ∈ g,ChgOk c),(hG1▸(by omega):G1.length<=3000000),(hG1▸hch:ch<=G1.length),(hG1▸(by omega):costG G1<=4000000),(fun k hk=>by rw[hFT];exact .inl hk:∀ k,logFoot l gv (.slice none 0 0) vs k->FT k)⟩:_/\_/\_/\_/\_/\_)
 have FN:=qH (show ∀ k,FT k->N<=k from fun k hk=>by rw[hFT] at hk;rcases hk with hk|hk;exact hN k hk;omega)
 have TW:=qH (hW▸hT:Tabs N W)
 have FIN:Hid (∀ gv' vs' G' ch' w',LogX w' l gv' (.slice none 0 0) vs' G' [] ch' (costG G') 0->(G',ch')=dropG G1 ch->Only FT W w'->(∀ k,logFoot l gv' (.slice none 0 0) vs' k->FT k)->LogTo w l gv (.slice none 0 0) vs (dropG G ch).1 [] (dropG G ch).2 (costG (dropG G ch).1) 0 w'):=qH (by
  intro gv' vs' G' ch' w' hx hd ho hf
  subst hW hG1
  rw[<-hd]
  refine⟨(Only.refl _ W).then ho (fun k hk hlt=>?_),gv',_,vs',hx,fun k hk=>by have:=hf k hk;rw[hFT] at this;exact this⟩
  rw[hFT] at hk;exact hk.elim id (fun e=>by omega))
 clear hT hK hL hcb hch hN hNs hFT
 subst hW
 clear hG1
 have h:=True.intro
 go_enter Tryz.func144,Tryz.ntmps144
 go_wp2_with fail
 go_loopw [3] (fun _ wr=>DropR W l FT G1 ch wr) (fun _ wr=>match wr.cell? ⟨l,1,none⟩ with
  | some (.slice _ n _)=>n
  | _=>0)
 case atStart=>exact⟨_,_,_,_,LX.out.1,rfl,LX.out.2.1,LX.out.2.2.1,LX.out.2.2.2.1,LX.out.2.2.2.2.1,Only.refl _ _,LX.out.2.2.2.2.2⟩
 case round=>
  obtain⟨gq,vq,Gq,cq,hX,hD,hK,hL,hchl,hcb,hon,hft⟩:=hrel
  obtain⟨wz,rfl⟩:∃ x,x=wr:=⟨_,rfl⟩
  have c0:=hX.blk.cell (j:=0) rfl
  have c4:=hX.blk.cell (j:=4) rfl
  have c1:=hX.blk.cell (j:=1) rfl
  obtain⟨A1,cap1,hgv,hn1,hn2,hr1⟩:=hX.gr.shape eltG
  subst hgv
  by_cases hlim:costG Gq<=1048576
  ·have d0:decide ((1048576:Int)<(costG Gq:Nat))=false:=decide_eq_false (by omega)
   have d2:((1048576:Int)<(costG Gq:Nat))=False:=eq_false (by omega)
   have d3:(1048576<costG Gq)=False:=eq_false (by omega)
   have HX:=qH (⟨hX,hD,hK,hon,hft⟩:_/\_/\_/\_/\_)
   have HLIM:=qH hlim
   clear hX hD hK hL hchl hcb hon hft hn1 hn2 hr1 hlim
   go_wp2_with fail
   go_region
   go_wp2_with fail
   go_end0
   obtain⟨hX,hD,hK,hon,hft⟩:=HX.out
   rw[dropG_le HLIM.out] at hD
   exact⟨rfl,FIN.out _ _ _ _ _ (hX.up ((Below.refl _ wz).drew)) hD hon.drew hft⟩
  ·by_cases hone:Gq.length<=1
   ·have d0:decide ((1048576:Int)<(costG Gq:Nat))=true:=decide_eq_true (by omega)
    have d2:((1048576:Int)<(costG Gq:Nat))=True:=eq_true (by omega)
    have d3:(1048576<costG Gq)=True:=eq_true (by omega)
    have e0:decide ((1:Int)<(vq.length:Nat))=false:=decide_eq_false (by have:=hX.len;omega)
    have e2:((1:Int)<(vq.length:Nat))=False:=eq_false (by have:=hX.len;omega)
    have e3:(1<vq.length)=False:=eq_false (by have:=hX.len;omega)
    have HX:=qH (⟨hX,hD,hK,hon,hft⟩:_/\_/\_/\_/\_)
    have HLIM:=qH hone
    clear hX hD hK hL hchl hcb hon hft hn1 hn2 hr1 hlim hone
    go_wp2_with fail
    go_region
    go_wp2_with fail
    go_end0
    obtain⟨hX,hD,hK,hon,hft⟩:=HX.out
    rw[dropG_one HLIM.out] at hD
    exact⟨rfl,FIN.out _ _ _ _ _ (hX.up ((Below.refl _ wz).drew)) hD hon.drew hft⟩
   ·have d0:decide ((1048576:Int)<(costG Gq:Nat))=true:=decide_eq_true (by omega)
    have d2:((1048576:Int)<(costG Gq:Nat))=True:=eq_true (by omega)
    have d3:(1048576<costG Gq)=True:=eq_true (by omega)
    have e0:decide ((1:Int)<(vq.length:Nat))=true:=decide_eq_true (by have:=hX.len;omega)
    have e2:((1:Int)<(vq.length:Nat))=True:=eq_true (by have:=hX.len;omega)
    have e3:(1<vq.length)=True:=eq_true (by have:=hX.len;omega)
    obtain⟨g,Gt,rfl⟩:∃ g Gt,Gq=g :: Gt:=by
     match Gq,hone with
     | [],h=>exact absurd (by simp) h
     | a :: b,_=>exact⟨a,b,rfl⟩
    obtain⟨x,vt,rfl⟩:∃ x vt,vq=x :: vt:=by
     match vq,hX.len with
     | [],h=>simp at h
     | a :: b,_=>exact⟨a,b,rfl⟩
    obtain⟨hrow,hg0⟩:=hX.rows 0 x g rfl rfl
    obtain⟨gx,cx,hxe,hcx1,hcx2,_,hgx,hfzx,hatx⟩:=hrow.lies eltCg hg0
    obtain⟨gb,o,hAe,hgb,hc⟩:=hr1.at_ eltG (i:=0) (x:=x) rfl
    have k0:=hc 0 _ rfl
    simp only[Nat.zero_mul,Nat.add_zero] at k0
    have k0':wz.cell? ⟨gb,o,none⟩=some (.slice (some ⟨gx,0,none⟩) g.length cx):=by rw[k0];exact congrArg some hxe
    subst hAe
    have HX:=qH (⟨hX,hD,hK,hL,hchl,hcb,hon,hft⟩:_/\_/\_/\_/\_/\_/\_/\_)
    have HR:=qH (⟨hrow,hg0,hxe,hcx1,hcx2,hgx⟩:_/\_/\_/\_/\_/\_)
    have HLIM:=qH (⟨hlim,hone⟩:_/\_)
    generalize hvl:(x :: vt).length=nv at *
    have hnv:0<nv:=by rw[<-hvl];simp
    have hnv2:(0:Int)<nv:=by omega
    have HVL:=qH hvl
    have HCP:=qH (⟨hn1,hn2⟩:_/\_)
    clear hX hD hK hL hchl hcb hon hft hn1 hn2 hr1 hlim hone hrow hg0 hxe hcx1 hcx2 hgx hfzx hatx hc k0 hgb hvl
    go_wp2_with fail
    go_region
    go_wp2_with fail
    go_loopw [53,3] (fun vi _ wr=>InR l (.slice (some ⟨gb,o,none⟩) nv cap1) (x :: vt) (g :: Gt) g cq wz vi wr) (fun vi _ _=>g.length -(intOf vi).toNat)
    case atStart=>exact⟨0,by omega,rfl,by simpa [costL] using HX.out.1.up ((Below.refl _ wz).drew),(Only.refl _ wz).drew⟩
    case round=>
     obtain⟨i,hi,rfl,h2,ho2⟩:=hrel
     obtain⟨wy,rfl⟩:∃ x,x=wr:=⟨_,rfl⟩
     by_cases hlt:i<g.length
     ·obtain⟨c,hcg⟩:∃ c,g[i]?=some c:=⟨_,List.getElem?_eq_getElem hlt⟩
      obtain⟨hrow2,_⟩:=h2.rows 0 x g rfl rfl
      obtain⟨gx2,cx2,hxe2,_,_,_,hgx2,_,hat2⟩:=hrow2.lies eltCg HR.out.2.1
      rw[HR.out.2.2.1] at hxe2
      cases hxe2
      have hOk:=HX.out.2.2.1 g (by simp) c (List.mem_of_getElem? hcg)
      have hOL:Only FT W wy:=HX.out.2.2.2.2.2.2.1.trans (ho2.mono (fun k hk=>HX.out.2.2.2.2.2.2.2 k (.inl hk)))
      have hTy:Tabs N wy:=TW.out.only hOL FN.out
      have hpr:=fun(w':World) (hb:Below wy.heap.size wy w')=>gprice hOk (hTy.up hb)
      have hct:=costL_take hcg
      have hcl:=costL_take_le g (i+1)
      have hcc:=costG_cons g Gt
      have hgl:=costL_len g
      have hgl2:=HX.out.2.2.2.2.2.1
      obtain⟨P,hP⟩:∃ P:Nat,P=priceC c:=⟨_,rfl⟩
      rw[<-hP] at hpr hct
      obtain⟨Z,hZ⟩:∃ Z:Int,Z=(costG (g :: Gt):Int) - costL (g.take i):=⟨_,rfl⟩
      rw[<-hZ] at h2
      have s1:IntKind.i64.wrap (Z -(P:Int))=Z - P:=IntWalk.i64_in _ (by have:=HX.out.2.2.2.2.2.1;omega)
      have s2:IntKind.i64.wrap ((i:Int)+1)=((i+1:Nat):Int):=by rw[IntWalk.i64_in _ (by omega)];omega
      have d1:decide ((i:Int)<g.length)=true:=decide_eq_true (by omega)
      have d5:(i:Int)<g.length:=by omega
      obtain⟨ck,ca,cb,cid,cnm,ctx,cvk,cvn,chd⟩:=c
      have m0:=hat2 i _ 0 _ hcg rfl
      simp only[Nat.add_zero] at m0
      have m1:=hat2 i _ 1 _ hcg rfl
      have m2:=hat2 i _ 2 _ hcg rfl
      have m3:=hat2 i _ 3 _ hcg rfl
      have m4:=hat2 i _ 4 _ hcg rfl
      have m5:=hat2 i _ 5 _ hcg rfl
      have m6:=hat2 i _ 6 _ hcg rfl
      have m7:=hat2 i _ 7 _ hcg rfl
      have m8:=hat2 i _ 8 _ hcg rfl
      have HBX:=qH (below1 wy (.cells (chgA ⟨ck,ca,cb,cid,cnm,ctx,cvk,cvn,chd⟩) 121))
      have HBK:=qH (Blk.made wy 121 (chgA ⟨ck,ca,cb,cid,cnm,ctx,cvk,cvn,chd⟩))
      have H2:=qH (h2.up HBX.out)
      have hly:=h2.blk.lt
      have HO2:=qH ho2
      have HPR:=qH hpr
      have HNN:=qH (⟨hcg,hct,hcl,hcc,hP,hZ⟩:_/\_/\_/\_/\_/\_)
      clear h2 ho2 hpr hcg hct hcl hcc hP hZ hrow2 hat2 hOk hOL hTy
      go_wp2_with fail
      clear m0 m1 m2 m3 m4 m5 m6 m7 m8
      obtain⟨W1,hW1⟩:∃ W1,W1=wy.alloc (.cells (chgA ⟨ck,ca,cb,cid,cnm,ctx,cvk,cvn,chd⟩) 121):=⟨_,rfl⟩
      rw[<-hW1] at HBX HBK H2
      rw[<-hW1]
      clear hW1
      have C4:∀ X:OnW (fun _=>False) W1,X.w.cell? ⟨l,4,none⟩=some (.int .i64 Z):=fun X=>(H2.out.blk.only X.on (fun hk=>hk)).cell (j:=4) rfl
      have CB:∀ X:OnW (fun _=>False) W1,Blk X.w wy.heap.size 121 _:=fun X=>HBK.out.only X.on (fun hk=>hk)
      have b0:=fun x=>(CB x).cell (j:=0) rfl
      have b1:=fun x=>(CB x).cell (j:=1) rfl
      have b2:=fun x=>(CB x).cell (j:=2) rfl
      have b3:=fun x=>(CB x).cell (j:=3) rfl
      have b4:=fun x=>(CB x).cell (j:=4) rfl
      have b5:=fun x=>(CB x).cell (j:=5) rfl
      have b6:=fun x=>(CB x).cell (j:=6) rfl
      have b7:=fun x=>(CB x).cell (j:=7) rfl
      have b8:=fun x=>(CB x).cell (j:=8) rfl
      clear CB
      refine wp_region_mixS2 (fun _=>False) (fun k=>k=l) (fun k hk=>hk.elim) [9] (.one [(0,true),(1,true),(2,true),(3,true),(4,true)] 5 (.one [(6,true),(7,false),(8,true)] 9 (.done []))) (by kernel_rfl) (fun c d v a w h=>by cases d<;>exact h) (by kernel_rfl) ?_
      simp only[wpMixS,wpQ2,pk_nil,pk_cons,pushAt_zero,pushAt_succ,List.contains_cons,List.contains_nil,Bool.false_or,Bool.or_false,Bool.true_or,Bool.or_true,Nat.reduceBEq,Nat.reduceEqDiff]
      repeat (first|go_big_quiet_step (fail)|refine wpQuiet_nil ?_)
      clear C4 b0 b1 b2 b3 b4 b5 b6 b7 b8
      go_wp2_with fail
      refine(HPR.out W1.drew (HBX.out.drew)).mono ?_
      rintro e w4 ⟨rfl,hb4⟩
      have B4:=qH (show Below W1.heap.size W1 w4 from(Below.refl _ W1).drew.trans hb4)
      have H4:=qH (H2.out.up B4.out)
      clear hb4
      go_wp2_with fail
      refine thenQ_normal ⟨⟨⟨_,Only.of_below B4.out⟩,rfl⟩,?_⟩
      repeat (first|go_big_quiet_step (fail)|refine wpQuiet_nil ?_)
      have k4:=H4.out.blk.cell (j:=4) rfl
      have f4:=H4.out.blk.fz 4
      go_wp2_with fail
      refine thenQ_normal ⟨⟨⟨_,(show Only (fun k=>k=l) W1 _ from Only.setCell (S:=fun k=>k=l) (p:=⟨l,4,none⟩) (Only.of_below B4.out) rfl _)⟩,rfl⟩,?_⟩
      clear k4 f4
      go_wp2_with fail
      go_roundw
      case rel=>
       obtain⟨hcg,hct,hcl,hcc,hP,hZ⟩:=HNN.out
       have h5:=H4.out.setCo (k:=Z - P)
       rw[show Z -(P:Int)=(costG (g :: Gt):Int) - costL (g.take (i+1)) by omega] at h5 ⊢
       exact⟨i+1,by omega,by first|rfl|go_num,h5,HO2.out.trans (Only.setCell (S:=fun k=>k=l) (p:=⟨l,4,none⟩) ((Only.of_below HBX.out).trans (Only.of_below B4.out)) rfl _)⟩
      case measure=>simp[intOf];omega
     ·obtain rfl:i=g.length:=by omega
      rw[List.take_length,costG_cons,show(((costL g+costG Gt:Nat):Int) - costL g)=costG Gt by omega] at h2
      obtain⟨hrow2,_⟩:=h2.rows 0 x g rfl rfl
      rw[HR.out.2.2.1] at hrow2
      obtain⟨w3,hrun,_,hon3⟩:=clear_own eltCg zeroChg (fun u hu=>by simp[Value.cells] at hu;rcases hu with rfl|rfl|rfl|rfl|rfl|rfl|rfl|rfl|rfl<;>rfl) hrow2 (i:=0) HR.out.2.1 cx
      simp only[Nat.zero_mul,Nat.sub_zero] at hrun
      have hx3:=h2.s3 x (by simp)
      have hgl3:gx≠l/\(Value.slice (some ⟨gb,o,none⟩) nv cap1).ownBlock≠some gx:=by
       have:=hx3 gx (by rw[HR.out.2.2.1];rfl);exact⟨this.1,this.2.1⟩
      have hgbl:gb≠l:=h2.s2 gb rfl
      have hgbx:gb≠gx:=fun e=>hgl3.2 (by rw[e];rfl)
      have k1:wy.cell? ⟨gb,o,none⟩=some (.slice (some ⟨gx,0,none⟩) g.length cx):=(World.cell?_of_block (w:=wz) (a:=⟨gb,o,none⟩) (ho2.block gb (HX.out.1.gr.lt rfl) hgbl)).trans k0'
      have b1:=h2.blk.only hon3 (fun e=>hgl3.1 e.symm)
      have c1:=h2.blk.cell (j:=1) rfl
      have q1:=b1.cell (j:=1) rfl
      have q3:=b1.cell (j:=3) rfl
      have f1:=b1.fz 1
      have f3:=b1.fz 3
      have hcap:¬ cap1=1:=by have:=HLIM.out.2;have:=HVL.out;simp at this;have:=HCP.out;simp at *;omega
      have hcap2:(cap1 == 1)=false:=by simpa using hcap
      have d1:decide (((g.length:Nat):Int)<g.length)=false:=by simp
      have dn:(1:Int)<=nv:=by omega
      have H2:=qH (⟨h2,ho2,b1,hon3,hgl3,hgbl,hgbx⟩:_/\_/\_/\_/\_/\_/\_)
      have HCC:=qH hcap
      clear h2 ho2 b1 hon3 hgl3 hgbl hgbx hrow2 hx3 k0' hlt hi
      have hb2:(Builtin.len)=Builtin.len:=rfl
      clear hb2
      by_cases hcq:0<cq
      ·have x0:decide ((0:Int)<cq)=true:=decide_eq_true hcq
       have s1:IntKind.i64.wrap (cq - 1)=cq - 1:=IntWalk.i64_in _ (by have:=HX.out.2.2.2.2.1;have:=HX.out.2.2.2.1;omega)
       go_wp2_with fail
       obtain⟨h2,ho2,b1,hon3,hgl3,hgbl,hgbx⟩:=H2.out
       obtain⟨hX,hD,hK,hL,hchl,hcb,hon,hft⟩:=HX.out
       have hxo:(sl3 x).ownBlock=some gx:=by rw[HR.out.2.2.1];rfl
       have h6:=(h2.tailG hxo hon3 HCC.out).setChn (k:=cq - 1)
       have hcc:=costG_cons g Gt
       have hlg:1<=Gt.length:=by have:=HLIM.out.2;rw[List.length_cons] at this;omega
       have hds:=dropG_step (ch:=cq) (by have:=HLIM.out.1;omega:1048576<costG (g :: Gt)) hlg
       rw[if_pos hcq] at hds
       refine⟨⟨_,_,Gt,cq - 1,h6,hds.symm.trans hD,fun q hq=>hK q (by simp[hq]),by simp at hL;omega,by simp at hchl;omega,by omega,?_,fun k hk=>?_⟩,?_⟩
       ·have hl1:=hft l (.inl rfl)
        have hx1:=hft gx (.inr (.inr (.inr ⟨x,by simp,hxo⟩)))
        exact(((hon.trans (ho2.mono (fun k e=>e▸hl1))).trans (hon3.mono (fun k e=>e▸hx1))).setCell (p:=⟨l,1,none⟩) hl1 _).setCell (p:=⟨l,3,none⟩) hl1 _
       ·rcases hk with rfl|hk|hk|⟨y,hy,hk⟩
        ·exact hft _ (.inl rfl)
        ·exact hft k (.inr (.inl hk))
        ·simp[Value.ownBlock] at hk
        ·exact hft k (.inr (.inr (.inr ⟨y,by simp[hy],hk⟩)))
       ·have e1:=h6.blk.cell (j:=1) rfl
        have e2:=hX.blk.cell (j:=1) rfl
        rw[e1,e2]
        show nv - 1<nv
        omega
      ·have x0:decide ((0:Int)<cq)=false:=decide_eq_false hcq
       go_wp2_with fail
       obtain⟨h2,ho2,b1,hon3,hgl3,hgbl,hgbx⟩:=H2.out
       obtain⟨hX,hD,hK,hL,hchl,hcb,hon,hft⟩:=HX.out
       have hxo:(sl3 x).ownBlock=some gx:=by rw[HR.out.2.2.1];rfl
       have h6:=(h2.tailG hxo hon3 HCC.out)
       have hcc:=costG_cons g Gt
       have hlg:1<=Gt.length:=by have:=HLIM.out.2;rw[List.length_cons] at this;omega
       have hds:=dropG_step (ch:=cq) (by have:=HLIM.out.1;omega:1048576<costG (g :: Gt)) hlg
       rw[if_neg hcq] at hds
       refine⟨⟨_,_,Gt,cq,h6,hds.symm.trans hD,fun q hq=>hK q (by simp[hq]),by simp at hL;omega,by simp at hchl;omega,by omega,?_,fun k hk=>?_⟩,?_⟩
       ·have hl1:=hft l (.inl rfl)
        have hx1:=hft gx (.inr (.inr (.inr ⟨x,by simp,hxo⟩)))
        exact((hon.trans (ho2.mono (fun k e=>e▸hl1))).trans (hon3.mono (fun k e=>e▸hx1))).setCell (p:=⟨l,1,none⟩) hl1 _
       ·rcases hk with rfl|hk|hk|⟨y,hy,hk⟩
        ·exact hft _ (.inl rfl)
        ·exact hft k (.inr (.inl hk))
        ·simp[Value.ownBlock] at hk
        ·exact hft k (.inr (.inr (.inr ⟨y,by simp[hy],hk⟩)))
       ·have e1:=h6.blk.cell (j:=1) rfl
        have e2:=hX.blk.cell (j:=1) rfl
        rw[e1,e2]
        show nv - 1<nv
        omega
set_option maxRecDepth 100000 in
set_option maxHeartbeats 4000000 in
theorem lclose_some {N:Nat} {A:Option Addr} {cap:Nat} (hT:Tabs N w) (h:LogX w l gv (.slice A O.length cap) vs G O ch (costG (G++[O])) nw) (hO:0<O.length) (hv:vs.length<=2000000) (hK:∀ g ∈ G++[O],∀ c ∈ g,ChgOk c) (hcb:costG (G++[O])<=3000000) (hch:ch<=G.length) (hN:∀ k,logFoot l gv (.slice A O.length cap) vs k->N<=k) (hNs:N<=w.heap.size) :
  Calls Tryz.prog 144 #[pAt l] w fun r w'=>r=.returned (.tuple #[])/\LogTo w l gv (.slice A O.length cap) vs (dropG (G++[O]) ch).1 [] (dropG (G++[O]) ch).2 (costG (dropG (G++[O]) ch).1) 0 w':=by
 have hl:=h.blk.lt
 obtain⟨L,hL⟩:∃ L,L=O.length:=⟨_,rfl⟩
 obtain⟨VV,hVV⟩:∃ VV:Value,VV=gv:=⟨_,rfl⟩
 obtain⟨A1,cap1,hgv,hn1,hn2,hr1⟩:=h.gr.shape eltG
 have hVB:∀ k,VV.ownBlock=some k->k≠l/\k<w.heap.size:=fun k hk=>by rw[hVV] at hk;exact⟨h.s2 k hk,h.gr.lt hk⟩
 obtain⟨v',w3,happ,hown3,ho3,hblk3⟩:=OOwn.push eltG (w:=w.drew) (hVV▸(h.gr.up ((Below.refl _ w).drew)):OOwn encG 117 1 w.drew VV vs) (A,O.length,cap) (by omega) (by omega)
 have hon:Only (fun k=>VV.ownBlock=some k) w w3:=((Only.refl _ w).drew).trans ho3
 have C1:∀ x:OnW (fun k=>VV.ownBlock=some k) w,x.w.cell? ⟨l,1,none⟩=some gv:=fun x=>(h.blk.only x.on (fun hk=>(hVB l hk).1 rfl)).cell (j:=1) rfl
 have C2:∀ x:OnW (fun k=>VV.ownBlock=some k) w,x.w.cell? ⟨l,2,none⟩=some (.slice A O.length cap):=fun x=>(h.blk.only x.on (fun hk=>(hVB l hk).1 rfl)).cell (j:=2) rfl
 have c2:=h.blk.cell (j:=2) rfl
 have d0:(0<L)=True:=by simp;omega
 obtain⟨co,hco⟩:∃ co:Int,co=(costG (G++[O]):Int):=⟨_,rfl⟩
 rw[<-hco] at h
 have HCO:=qH (⟨hco,hT,hK,hcb,hch,hN,hNs,hv⟩:_/\_/\_/\_/\_/\_/\_/\_)
 have hb3':Hid (∀ k,v'.ownBlock=some k->k≠l/\(VV.ownBlock=some k\/w.heap.size<=k)):=qH (fun k hk=>by
  rcases hblk3 with e|⟨g3,e,hg3⟩
  ·rw[e] at hk;exact⟨(hVB k hk).1,.inl hk⟩
  ·rw[e] at hk;cases hk;have:w.heap.size<=k:=hg3;exact⟨by omega,.inr this⟩)
 have HP:=qH happ
 have HOWN:=qH hown3
 obtain⟨A3,cap3,hv3,_,_,_⟩:=hown3.shape eltG
 have hll:(vs++[(A,O.length,cap)]).length=vs.length+1:=by simp
 rw[hll] at hv3
 subst hv3
 rw[hgv] at C1
 have HON:=qH hon
 have H:=qH h
 have HVV:=qH (⟨hVV,hgv,hVB,hO⟩:_/\_/\_/\_)
 rw[<-hL] at C2 c2
 have HL:=qH hL
 clear h hVV hVB hO happ hown3 ho3 hblk3 hon hll hv hn1 hn2 hr1 hL hco hT hK hcb hch hN hNs
 go_enter Tryz.func144,Tryz.ntmps144
 go_wp2_with fail
 clear c2
 refine wp_region_mixS2 (fun k=>VV.ownBlock=some k) (fun k=>k=l\/VV.ownBlock=some k) (fun k hk=>.inr hk) [15,18,21] (.one [(0,true),(1,false),(2,false),(3,true),(4,true),(5,true),(6,true),(7,true),(8,true),(9,true),(10,true)] 11 (.one [] 12 (.one [(13,false),(14,true)] 15 (.one [(16,false),(17,false)] 18 (.one [(19,false),(20,false)] 21 (.done [])))))) (by kernel_rfl) (fun c d v a w h=>by cases d<;>exact h) (by kernel_rfl) ?_
 simp only[wpMixS,wpQ2,pk_nil,pk_cons,pushAt_zero,pushAt_succ,List.contains_cons,List.contains_nil,Bool.false_or,Bool.or_false,Bool.true_or,Bool.or_true,Nat.reduceBEq,Nat.reduceEqDiff]
 repeat (first|go_big_quiet_step (fail)|refine wpQuiet_nil ?_)
 clear C1 C2
 go_wp2_with fail
 refine thenQ_normal ⟨⟨⟨_,(Only.refl _ w).drew.alloc _⟩,rfl⟩,?_⟩
 have HP2:∀ ty,(Builtin.append_ #[45,45] ty #[.slice A1 vs.length cap1,.slice (some ⟨w.drew.heap.size,0,none⟩) 1 1]).run Tryz.prog (w.drew.alloc (.cells (encG (A,O.length,cap)).toArray 117))=.ok (.slice A3 (vs.length+1) cap3) w3:=by
  have:=HP.out
  rw[HVV.out.1,HVV.out.2.1] at this
  exact this
 rw[<-HL.out] at HP2
 refine wpList_app_run rfl _ _ _ rfl rfl rfl HP2 ?_
 clear HP2
 go_wp2_with fail
 refine thenQ_normal ⟨⟨⟨_,HON.out⟩,rfl⟩,?_⟩
 repeat (first|go_big_quiet_step (fail)|refine wpQuiet_nil ?_)
 have h3:Blk w3 l 176 _:=H.out.blk.only HON.out (fun hk=>(HVV.out.2.2.1 l hk).1 rfl)
 have ho:Only (fun k=>k=l\/VV.ownBlock=some k) w w3:=HON.out.mono (fun k hk=>.inr hk)
 have k1:=h3.cell (j:=1) rfl
 have k2:=h3.cell (j:=2) rfl
 have k5:=h3.cell (j:=5) rfl
 have f1:=h3.fz 1
 have f2:=h3.fz 2
 have f5:=h3.fz 5
 have hs0:Blk (((w3.setCell ⟨l,1,none⟩ (.slice A3 (vs.length+1) cap3)).setCell ⟨l,2,none⟩ (.slice none 0 0)).setCell ⟨l,5,none⟩ (.int .i64 0)) l 176 (logC (.slice A3 (vs.length+1) cap3) (.slice none 0 0) ch co 0):=
  ((h3.set (j:=1) (by simp) (.slice A3 (vs.length+1) cap3)).set (j:=2) (by simp) (.slice none 0 0)).set (j:=5) (by simp) (.int .i64 0)
 have HS:=qH hs0
 clear hs0 h3
 go_wp2_with fail
 refine thenQ_normal ⟨⟨⟨_,ho.setCell (p:=⟨l,1,none⟩) (.inl rfl) _⟩,rfl⟩,?_⟩
 repeat (first|go_big_quiet_step (fail)|refine wpQuiet_nil ?_)
 go_wp2_with fail
 refine thenQ_normal ⟨⟨⟨_,(ho.setCell (p:=⟨l,1,none⟩) (.inl rfl) _).setCell (p:=⟨l,2,none⟩) (.inl rfl) _⟩,rfl⟩,?_⟩
 repeat (first|go_big_quiet_step (fail)|refine wpQuiet_nil ?_)
 go_wp2_with fail
 refine thenQ_normal ⟨⟨⟨_,((ho.setCell (p:=⟨l,1,none⟩) (.inl rfl) _).setCell (p:=⟨l,2,none⟩) (.inl rfl) _).setCell (p:=⟨l,5,none⟩) (.inl rfl) _⟩,rfl⟩,?_⟩
 have HO:=qH (((ho.setCell (p:=⟨l,1,none⟩) (.inl rfl) (.slice A3 (vs.length+1) cap3)).setCell (p:=⟨l,2,none⟩) (.inl rfl) (.slice none 0 0)).setCell (p:=⟨l,5,none⟩) (.inl rfl) (.int .i64 0))
 have HK:Hid (∀ k,k≠l->(((w3.setCell ⟨l,1,none⟩ (.slice A3 (vs.length+1) cap3)).setCell ⟨l,2,none⟩ (.slice none 0 0)).setCell ⟨l,5,none⟩ (.int .i64 0)).heap[k]?=w3.heap[k]?):=qH (fun k hk=>
  ((Below.heap_setCell _ ⟨l,5,none⟩ _ _ hk).trans (Below.heap_setCell _ ⟨l,2,none⟩ _ _ hk)).trans (Below.heap_setCell _ ⟨l,1,none⟩ _ _ hk))
 clear k1 k2 k5 f1 f2 f5 ho HP
 generalize ((w3.setCell ⟨l,1,none⟩ (.slice A3 (vs.length+1) cap3)).setCell ⟨l,2,none⟩ (.slice none 0 0)).setCell ⟨l,5,none⟩ (.int .i64 0)=W at *
 obtain⟨hVV,hgv,hVB,hO⟩:=HVV.out
 subst hVV
 obtain⟨hco,hT,hK,hcb,hch,hN,hNs,hvl⟩:=HCO.out
 have h:=H.out
 have hkW:∀ k,k<w.heap.size->k≠l->VV.ownBlock≠some k->W.heap[k]?=w.heap[k]?:=fun k h1 h2 h3=>(HK.out k h2).trans (HON.out.block k h1 h3)
 have hnew:=hb3'.out
 have hLW:LogX W l (.slice A3 (vs.length+1) cap3) (.slice none 0 0) (vs++[(A,O.length,cap)]) (G++[O]) [] ch co 0:=by
  refine⟨HS.out,?_,by simp[h.len],fun i x g h1 h2=>?_,ROwn.nil _ _,fun _=>rfl,fun k hk=>by simp[Value.ownBlock] at hk,fun k hk=>(hnew k hk).1,fun x hx k hk=>?_,?_⟩
  ·exact HOWN.out.kept (fun k e=>HK.out k (hnew k e).1)
  ·rw[List.getElem?_append] at h1 h2
   rw[h.len] at h1
   split at h1
   ·rename_i hi
    rw[if_pos hi] at h2
    have hx:=List.mem_of_getElem? h1
    refine⟨(h.rows i x g h1 h2).1.kept (fun k e=>hkW k ((h.rows i x g h1 h2).1.lt e) (h.s3 x hx k e).1 (h.s3 x hx k e).2.1),(h.rows i x g h1 h2).2⟩
   ·rename_i hi
    rw[if_neg hi] at h2
    have e0:i - G.length=0:=by
     have:=(List.getElem?_eq_some_iff.1 h1).1;simp at this;omega
    rw[e0] at h1 h2
    simp only[List.getElem?_cons_zero,Option.some.injEq] at h1 h2
    subst h1 h2
    exact⟨h.op.kept (fun k e=>hkW k (h.op.lt e) (h.s1 k e).1 (h.s1 k e).2),hO⟩
  ·have hx2:(x ∈ vs\/x=(A,O.length,cap)):=by simpa using hx
   rcases hx2 with hx2|rfl
   ·refine⟨(h.s3 x hx2 k hk).1,fun e=>?_,fun e=>by simp[Value.ownBlock] at e⟩
    rcases (hnew k e).2 with q|q
    ·exact(h.s3 x hx2 k hk).2.1 q
    ·have:=h.foot_lt (.inr (.inr (.inr ⟨x,hx2,hk⟩)));omega
   ·refine⟨(h.s1 k hk).1,fun e=>?_,fun e=>by simp[Value.ownBlock] at e⟩
    rcases (hnew k e).2 with q|q
    ·exact(h.s1 k hk).2 q
    ·have:=h.op.lt hk;omega
  ·refine List.pairwise_append.2 ⟨h.pw,List.pairwise_singleton _ _,fun x hx y hy k hk=>?_⟩
   obtain rfl:y=(A,O.length,cap):=by simpa using hy
   exact(h.s3 x hx k hk).2.2
 obtain⟨FT,hFT⟩:∃ FT:Nat->Prop,FT=fun k=>logFoot l VV (.slice A O.length cap) vs k\/w.heap.size<=k:=⟨_,rfl⟩
 have hfoot:∀ k,logFoot l (.slice A3 (vs.length+1) cap3) (.slice none 0 0) (vs++[(A,O.length,cap)]) k->FT k:=by
  intro k hk
  rw[hFT]
  rcases hk with rfl|hk|hk|⟨x,hx,hk⟩
  ·exact .inl (.inl rfl)
  ·exact(hnew k hk).2.elim (fun e=>.inl (.inr (.inl e))) .inr
  ·simp[Value.ownBlock] at hk
  ·have hx2:(x ∈ vs\/x=(A,O.length,cap)):=by simpa using hx
   rcases hx2 with hx2|rfl
   ·exact .inl (.inr (.inr (.inr ⟨x,hx2,hk⟩)))
   ·exact .inl (.inr (.inr (.inl hk)))
 have hOW:Only (fun k=>logFoot l VV (.slice A O.length cap) vs k) w W:=HO.out.mono (fun k hk=>hk.elim .inl (fun e=>.inr (.inl e)))
 obtain⟨G1,hG1⟩:∃ G1,G1=G++[O]:=⟨_,rfl⟩
 have hGl:G.length=vs.length:=h.len.symm
 have LX:Hid (LogX W l (.slice A3 (vs.length+1) cap3) (.slice none 0 0) (vs++[(A,O.length,cap)]) G1 [] ch (costG G1) 0/\(∀ g ∈ G1,∀ c ∈ g,ChgOk c)/\G1.length<=3000000/\ch<=G1.length/\costG G1<=4000000/\∀ k,logFoot l (.slice A3 (vs.length+1) cap3) (.slice none 0 0) (vs++[(A,O.length,cap)]) k->FT k):=
  qH (by rw[hG1];exact⟨hco▸hLW,hK,by simp;omega,by simp;omega,by omega,hfoot⟩)
 have FN:=qH (show ∀ k,FT k->N<=k from fun k hk=>by rw[hFT] at hk;rcases hk with hk|hk;exact hN k hk;omega)
 have TW:=qH (show Tabs N W from hT.only hOW hN)
 have FIN:Hid (∀ gv' vs' G' ch' w',LogX w' l gv' (.slice none 0 0) vs' G' [] ch' (costG G') 0->(G',ch')=dropG G1 ch->Only FT W w'->(∀ k,logFoot l gv' (.slice none 0 0) vs' k->FT k)->LogTo w l VV (.slice A O.length cap) vs (dropG (G++[O]) ch).1 [] (dropG (G++[O]) ch).2 (costG (dropG (G++[O]) ch).1) 0 w'):=qH (by
  intro gv' vs' G' ch' w' hx hd ho hf
  rw[<-hG1,<-hd]
  refine⟨hOW.then ho (fun k hk hlt=>?_),gv',_,vs',hx,fun k hk=>by have:=hf k hk;rw[hFT] at this;exact this⟩
  rw[hFT] at hk;exact hk.elim id (fun e=>by omega))
 clear hLW hfoot hOW hG1 hco hT hK hcb hch hN hNs hvl h hVB hO hkW hnew hFT hGl
 have c0:=HS.out.cell (j:=0) rfl
 have c4:=HS.out.cell (j:=4) rfl
 go_wp2_with fail
 clear c0 c4
 go_loopw [3] (fun _ wr=>DropR W l FT G1 ch wr) (fun _ wr=>match wr.cell? ⟨l,1,none⟩ with
  | some (.slice _ n _)=>n
  | _=>0)
 case atStart=>exact⟨_,_,_,_,LX.out.1,rfl,LX.out.2.1,LX.out.2.2.1,LX.out.2.2.2.1,LX.out.2.2.2.2.1,Only.refl _ _,LX.out.2.2.2.2.2⟩
 case round=>
  obtain⟨gq,vq,Gq,cq,hX,hD,hK,hL,hchl,hcb,hon,hft⟩:=hrel
  obtain⟨wz,rfl⟩:∃ x,x=wr:=⟨_,rfl⟩
  have c0:=hX.blk.cell (j:=0) rfl
  have c4:=hX.blk.cell (j:=4) rfl
  have c1:=hX.blk.cell (j:=1) rfl
  obtain⟨A1,cap1,hgv,hn1,hn2,hr1⟩:=hX.gr.shape eltG
  subst hgv
  by_cases hlim:costG Gq<=1048576
  ·have d0:decide ((1048576:Int)<(costG Gq:Nat))=false:=decide_eq_false (by omega)
   have d2:((1048576:Int)<(costG Gq:Nat))=False:=eq_false (by omega)
   have d3:(1048576<costG Gq)=False:=eq_false (by omega)
   have HX:=qH (⟨hX,hD,hK,hon,hft⟩:_/\_/\_/\_/\_)
   have HLIM:=qH hlim
   clear hX hD hK hL hchl hcb hon hft hn1 hn2 hr1 hlim
   go_wp2_with fail
   go_region
   go_wp2_with fail
   go_end0
   obtain⟨hX,hD,hK,hon,hft⟩:=HX.out
   rw[dropG_le HLIM.out] at hD
   exact⟨rfl,FIN.out _ _ _ _ _ (hX.up ((Below.refl _ wz).drew)) hD hon.drew hft⟩
  ·by_cases hone:Gq.length<=1
   ·have d0:decide ((1048576:Int)<(costG Gq:Nat))=true:=decide_eq_true (by omega)
    have d2:((1048576:Int)<(costG Gq:Nat))=True:=eq_true (by omega)
    have d3:(1048576<costG Gq)=True:=eq_true (by omega)
    have e0:decide ((1:Int)<(vq.length:Nat))=false:=decide_eq_false (by have:=hX.len;omega)
    have e2:((1:Int)<(vq.length:Nat))=False:=eq_false (by have:=hX.len;omega)
    have e3:(1<vq.length)=False:=eq_false (by have:=hX.len;omega)
    have HX:=qH (⟨hX,hD,hK,hon,hft⟩:_/\_/\_/\_/\_)
    have HLIM:=qH hone
    clear hX hD hK hL hchl hcb hon hft hn1 hn2 hr1 hlim hone
    go_wp2_with fail
    go_region
    go_wp2_with fail
    go_end0
    obtain⟨hX,hD,hK,hon,hft⟩:=HX.out
    rw[dropG_one HLIM.out] at hD
    exact⟨rfl,FIN.out _ _ _ _ _ (hX.up ((Below.refl _ wz).drew)) hD hon.drew hft⟩
   ·have d0:decide ((1048576:Int)<(costG Gq:Nat))=true:=decide_eq_true (by omega)
    have d2:((1048576:Int)<(costG Gq:Nat))=True:=eq_true (by omega)
    have d3:(1048576<costG Gq)=True:=eq_true (by omega)
    have e0:decide ((1:Int)<(vq.length:Nat))=true:=decide_eq_true (by have:=hX.len;omega)
    have e2:((1:Int)<(vq.length:Nat))=True:=eq_true (by have:=hX.len;omega)
    have e3:(1<vq.length)=True:=eq_true (by have:=hX.len;omega)
    obtain⟨g,Gt,rfl⟩:∃ g Gt,Gq=g :: Gt:=by
     match Gq,hone with
     | [],h=>exact absurd (by simp) h
     | a :: b,_=>exact⟨a,b,rfl⟩
    obtain⟨x,vt,rfl⟩:∃ x vt,vq=x :: vt:=by
     match vq,hX.len with
     | [],h=>simp at h
     | a :: b,_=>exact⟨a,b,rfl⟩
    obtain⟨hrow,hg0⟩:=hX.rows 0 x g rfl rfl
    obtain⟨gx,cx,hxe,hcx1,hcx2,_,hgx,hfzx,hatx⟩:=hrow.lies eltCg hg0
    obtain⟨gb,o,hAe,hgb,hc⟩:=hr1.at_ eltG (i:=0) (x:=x) rfl
    have k0:=hc 0 _ rfl
    simp only[Nat.zero_mul,Nat.add_zero] at k0
    have k0':wz.cell? ⟨gb,o,none⟩=some (.slice (some ⟨gx,0,none⟩) g.length cx):=by rw[k0];exact congrArg some hxe
    subst hAe
    have HX:=qH (⟨hX,hD,hK,hL,hchl,hcb,hon,hft⟩:_/\_/\_/\_/\_/\_/\_/\_)
    have HR:=qH (⟨hrow,hg0,hxe,hcx1,hcx2,hgx⟩:_/\_/\_/\_/\_/\_)
    have HLIM:=qH (⟨hlim,hone⟩:_/\_)
    generalize hvl:(x :: vt).length=nv at *
    have hnv:0<nv:=by rw[<-hvl];simp
    have hnv2:(0:Int)<nv:=by omega
    have HVL:=qH hvl
    have HCP:=qH (⟨hn1,hn2⟩:_/\_)
    clear hX hD hK hL hchl hcb hon hft hn1 hn2 hr1 hlim hone hrow hg0 hxe hcx1 hcx2 hgx hfzx hatx hc k0 hgb hvl
    go_wp2_with fail
    go_region
    go_wp2_with fail
    go_loopw [53,3] (fun vi _ wr=>InR l (.slice (some ⟨gb,o,none⟩) nv cap1) (x :: vt) (g :: Gt) g cq wz vi wr) (fun vi _ _=>g.length -(intOf vi).toNat)
    case atStart=>exact⟨0,by omega,rfl,by simpa [costL] using HX.out.1.up ((Below.refl _ wz).drew),(Only.refl _ wz).drew⟩
    case round=>
     obtain⟨i,hi,rfl,h2,ho2⟩:=hrel
     obtain⟨wy,rfl⟩:∃ x,x=wr:=⟨_,rfl⟩
     by_cases hlt:i<g.length
     ·obtain⟨c,hcg⟩:∃ c,g[i]?=some c:=⟨_,List.getElem?_eq_getElem hlt⟩
      obtain⟨hrow2,_⟩:=h2.rows 0 x g rfl rfl
      obtain⟨gx2,cx2,hxe2,_,_,_,hgx2,_,hat2⟩:=hrow2.lies eltCg HR.out.2.1
      rw[HR.out.2.2.1] at hxe2
      cases hxe2
      have hOk:=HX.out.2.2.1 g (by simp) c (List.mem_of_getElem? hcg)
      have hOL:Only FT W wy:=HX.out.2.2.2.2.2.2.1.trans (ho2.mono (fun k hk=>HX.out.2.2.2.2.2.2.2 k (.inl hk)))
      have hTy:Tabs N wy:=TW.out.only hOL FN.out
      have hpr:=fun(w':World) (hb:Below wy.heap.size wy w')=>gprice hOk (hTy.up hb)
      have hct:=costL_take hcg
      have hcl:=costL_take_le g (i+1)
      have hcc:=costG_cons g Gt
      have hgl:=costL_len g
      have hgl2:=HX.out.2.2.2.2.2.1
      obtain⟨P,hP⟩:∃ P:Nat,P=priceC c:=⟨_,rfl⟩
      rw[<-hP] at hpr hct
      obtain⟨Z,hZ⟩:∃ Z:Int,Z=(costG (g :: Gt):Int) - costL (g.take i):=⟨_,rfl⟩
      rw[<-hZ] at h2
      have s1:IntKind.i64.wrap (Z -(P:Int))=Z - P:=IntWalk.i64_in _ (by have:=HX.out.2.2.2.2.2.1;omega)
      have s2:IntKind.i64.wrap ((i:Int)+1)=((i+1:Nat):Int):=by rw[IntWalk.i64_in _ (by omega)];omega
      have d1:decide ((i:Int)<g.length)=true:=decide_eq_true (by omega)
      have d5:(i:Int)<g.length:=by omega
      obtain⟨ck,ca,cb,cid,cnm,ctx,cvk,cvn,chd⟩:=c
      have m0:=hat2 i _ 0 _ hcg rfl
      simp only[Nat.add_zero] at m0
      have m1:=hat2 i _ 1 _ hcg rfl
      have m2:=hat2 i _ 2 _ hcg rfl
      have m3:=hat2 i _ 3 _ hcg rfl
      have m4:=hat2 i _ 4 _ hcg rfl
      have m5:=hat2 i _ 5 _ hcg rfl
      have m6:=hat2 i _ 6 _ hcg rfl
      have m7:=hat2 i _ 7 _ hcg rfl
      have m8:=hat2 i _ 8 _ hcg rfl
      have HBX:=qH (below1 wy (.cells (chgA ⟨ck,ca,cb,cid,cnm,ctx,cvk,cvn,chd⟩) 121))
      have HBK:=qH (Blk.made wy 121 (chgA ⟨ck,ca,cb,cid,cnm,ctx,cvk,cvn,chd⟩))
      have H2:=qH (h2.up HBX.out)
      have hly:=h2.blk.lt
      have HO2:=qH ho2
      have HPR:=qH hpr
      have HNN:=qH (⟨hcg,hct,hcl,hcc,hP,hZ⟩:_/\_/\_/\_/\_/\_)
      clear h2 ho2 hpr hcg hct hcl hcc hP hZ hrow2 hat2 hOk hOL hTy
      go_wp2_with fail
      clear m0 m1 m2 m3 m4 m5 m6 m7 m8
      obtain⟨W1,hW1⟩:∃ W1,W1=wy.alloc (.cells (chgA ⟨ck,ca,cb,cid,cnm,ctx,cvk,cvn,chd⟩) 121):=⟨_,rfl⟩
      rw[<-hW1] at HBX HBK H2
      rw[<-hW1]
      clear hW1
      have C4:∀ X:OnW (fun _=>False) W1,X.w.cell? ⟨l,4,none⟩=some (.int .i64 Z):=fun X=>(H2.out.blk.only X.on (fun hk=>hk)).cell (j:=4) rfl
      have CB:∀ X:OnW (fun _=>False) W1,Blk X.w wy.heap.size 121 _:=fun X=>HBK.out.only X.on (fun hk=>hk)
      have b0:=fun x=>(CB x).cell (j:=0) rfl
      have b1:=fun x=>(CB x).cell (j:=1) rfl
      have b2:=fun x=>(CB x).cell (j:=2) rfl
      have b3:=fun x=>(CB x).cell (j:=3) rfl
      have b4:=fun x=>(CB x).cell (j:=4) rfl
      have b5:=fun x=>(CB x).cell (j:=5) rfl
      have b6:=fun x=>(CB x).cell (j:=6) rfl
      have b7:=fun x=>(CB x).cell (j:=7) rfl
      have b8:=fun x=>(CB x).cell (j:=8) rfl
      clear CB
      refine wp_region_mixS2 (fun _=>False) (fun k=>k=l) (fun k hk=>hk.elim) [9] (.one [(0,true),(1,true),(2,true),(3,true),(4,true)] 5 (.one [(6,true),(7,false),(8,true)] 9 (.done []))) (by kernel_rfl) (fun c d v a w h=>by cases d<;>exact h) (by kernel_rfl) ?_
      simp only[wpMixS,wpQ2,pk_nil,pk_cons,pushAt_zero,pushAt_succ,List.contains_cons,List.contains_nil,Bool.false_or,Bool.or_false,Bool.true_or,Bool.or_true,Nat.reduceBEq,Nat.reduceEqDiff]
      repeat (first|go_big_quiet_step (fail)|refine wpQuiet_nil ?_)
      clear C4 b0 b1 b2 b3 b4 b5 b6 b7 b8
      go_wp2_with fail
      refine(HPR.out W1.drew (HBX.out.drew)).mono ?_
      rintro e w4 ⟨rfl,hb4⟩
      have B4:=qH (show Below W1.heap.size W1 w4 from(Below.refl _ W1).drew.trans hb4)
      have H4:=qH (H2.out.up B4.out)
      clear hb4
      go_wp2_with fail
      refine thenQ_normal ⟨⟨⟨_,Only.of_below B4.out⟩,rfl⟩,?_⟩
      repeat (first|go_big_quiet_step (fail)|refine wpQuiet_nil ?_)
      have k4:=H4.out.blk.cell (j:=4) rfl
      have f4:=H4.out.blk.fz 4
      go_wp2_with fail
      refine thenQ_normal ⟨⟨⟨_,(show Only (fun k=>k=l) W1 _ from Only.setCell (S:=fun k=>k=l) (p:=⟨l,4,none⟩) (Only.of_below B4.out) rfl _)⟩,rfl⟩,?_⟩
      clear k4 f4
      go_wp2_with fail
      go_roundw
      case rel=>
       obtain⟨hcg,hct,hcl,hcc,hP,hZ⟩:=HNN.out
       have h5:=H4.out.setCo (k:=Z - P)
       rw[show Z -(P:Int)=(costG (g :: Gt):Int) - costL (g.take (i+1)) by omega] at h5 ⊢
       exact⟨i+1,by omega,by first|rfl|go_num,h5,HO2.out.trans (Only.setCell (S:=fun k=>k=l) (p:=⟨l,4,none⟩) ((Only.of_below HBX.out).trans (Only.of_below B4.out)) rfl _)⟩
      case measure=>simp[intOf];omega
     ·obtain rfl:i=g.length:=by omega
      rw[List.take_length,costG_cons,show(((costL g+costG Gt:Nat):Int) - costL g)=costG Gt by omega] at h2
      obtain⟨hrow2,_⟩:=h2.rows 0 x g rfl rfl
      rw[HR.out.2.2.1] at hrow2
      obtain⟨w3,hrun,_,hon3⟩:=clear_own eltCg zeroChg (fun u hu=>by simp[Value.cells] at hu;rcases hu with rfl|rfl|rfl|rfl|rfl|rfl|rfl|rfl|rfl<;>rfl) hrow2 (i:=0) HR.out.2.1 cx
      simp only[Nat.zero_mul,Nat.sub_zero] at hrun
      have hx3:=h2.s3 x (by simp)
      have hgl3:gx≠l/\(Value.slice (some ⟨gb,o,none⟩) nv cap1).ownBlock≠some gx:=by
       have:=hx3 gx (by rw[HR.out.2.2.1];rfl);exact⟨this.1,this.2.1⟩
      have hgbl:gb≠l:=h2.s2 gb rfl
      have hgbx:gb≠gx:=fun e=>hgl3.2 (by rw[e];rfl)
      have k1:wy.cell? ⟨gb,o,none⟩=some (.slice (some ⟨gx,0,none⟩) g.length cx):=(World.cell?_of_block (w:=wz) (a:=⟨gb,o,none⟩) (ho2.block gb (HX.out.1.gr.lt rfl) hgbl)).trans k0'
      have b1:=h2.blk.only hon3 (fun e=>hgl3.1 e.symm)
      have c1:=h2.blk.cell (j:=1) rfl
      have q1:=b1.cell (j:=1) rfl
      have q3:=b1.cell (j:=3) rfl
      have f1:=b1.fz 1
      have f3:=b1.fz 3
      have hcap:¬ cap1=1:=by have:=HLIM.out.2;have:=HVL.out;simp at this;have:=HCP.out;simp at *;omega
      have hcap2:(cap1 == 1)=false:=by simpa using hcap
      have d1:decide (((g.length:Nat):Int)<g.length)=false:=by simp
      have dn:(1:Int)<=nv:=by omega
      have H2:=qH (⟨h2,ho2,b1,hon3,hgl3,hgbl,hgbx⟩:_/\_/\_/\_/\_/\_/\_)
      have HCC:=qH hcap
      clear h2 ho2 b1 hon3 hgl3 hgbl hgbx hrow2 hx3 k0' hlt hi
      have hb2:(Builtin.len)=Builtin.len:=rfl
      clear hb2
      by_cases hcq:0<cq
      ·have x0:decide ((0:Int)<cq)=true:=decide_eq_true hcq
       have s1:IntKind.i64.wrap (cq - 1)=cq - 1:=IntWalk.i64_in _ (by have:=HX.out.2.2.2.2.1;have:=HX.out.2.2.2.1;omega)
       go_wp2_with fail
       obtain⟨h2,ho2,b1,hon3,hgl3,hgbl,hgbx⟩:=H2.out
       obtain⟨hX,hD,hK,hL,hchl,hcb,hon,hft⟩:=HX.out
       have hxo:(sl3 x).ownBlock=some gx:=by rw[HR.out.2.2.1];rfl
       have h6:=(h2.tailG hxo hon3 HCC.out).setChn (k:=cq - 1)
       have hcc:=costG_cons g Gt
       have hlg:1<=Gt.length:=by have:=HLIM.out.2;rw[List.length_cons] at this;omega
       have hds:=dropG_step (ch:=cq) (by have:=HLIM.out.1;omega:1048576<costG (g :: Gt)) hlg
       rw[if_pos hcq] at hds
       refine⟨⟨_,_,Gt,cq - 1,h6,hds.symm.trans hD,fun q hq=>hK q (by simp[hq]),by simp at hL;omega,by simp at hchl;omega,by omega,?_,fun k hk=>?_⟩,?_⟩
       ·have hl1:=hft l (.inl rfl)
        have hx1:=hft gx (.inr (.inr (.inr ⟨x,by simp,hxo⟩)))
        exact(((hon.trans (ho2.mono (fun k e=>e▸hl1))).trans (hon3.mono (fun k e=>e▸hx1))).setCell (p:=⟨l,1,none⟩) hl1 _).setCell (p:=⟨l,3,none⟩) hl1 _
       ·rcases hk with rfl|hk|hk|⟨y,hy,hk⟩
        ·exact hft _ (.inl rfl)
        ·exact hft k (.inr (.inl hk))
        ·simp[Value.ownBlock] at hk
        ·exact hft k (.inr (.inr (.inr ⟨y,by simp[hy],hk⟩)))
       ·have e1:=h6.blk.cell (j:=1) rfl
        have e2:=hX.blk.cell (j:=1) rfl
        rw[e1,e2]
        show nv - 1<nv
        omega
      ·have x0:decide ((0:Int)<cq)=false:=decide_eq_false hcq
       go_wp2_with fail
       obtain⟨h2,ho2,b1,hon3,hgl3,hgbl,hgbx⟩:=H2.out
       obtain⟨hX,hD,hK,hL,hchl,hcb,hon,hft⟩:=HX.out
       have hxo:(sl3 x).ownBlock=some gx:=by rw[HR.out.2.2.1];rfl
       have h6:=(h2.tailG hxo hon3 HCC.out)
       have hcc:=costG_cons g Gt
       have hlg:1<=Gt.length:=by have:=HLIM.out.2;rw[List.length_cons] at this;omega
       have hds:=dropG_step (ch:=cq) (by have:=HLIM.out.1;omega:1048576<costG (g :: Gt)) hlg
       rw[if_neg hcq] at hds
       refine⟨⟨_,_,Gt,cq,h6,hds.symm.trans hD,fun q hq=>hK q (by simp[hq]),by simp at hL;omega,by simp at hchl;omega,by omega,?_,fun k hk=>?_⟩,?_⟩
       ·have hl1:=hft l (.inl rfl)
        have hx1:=hft gx (.inr (.inr (.inr ⟨x,by simp,hxo⟩)))
        exact((hon.trans (ho2.mono (fun k e=>e▸hl1))).trans (hon3.mono (fun k e=>e▸hx1))).setCell (p:=⟨l,1,none⟩) hl1 _
       ·rcases hk with rfl|hk|hk|⟨y,hy,hk⟩
        ·exact hft _ (.inl rfl)
        ·exact hft k (.inr (.inl hk))
        ·simp[Value.ownBlock] at hk
        ·exact hft k (.inr (.inr (.inr ⟨y,by simp[hy],hk⟩)))
       ·have e1:=h6.blk.cell (j:=1) rfl
        have e2:=hX.blk.cell (j:=1) rfl
        rw[e1,e2]
        show nv - 1<nv
        omega
end
end Go.Proofs.YtkpoodjhjfmfjaaGreatDoor
namespace Go.Proofs.YtkpoodjhjfmfjaaGreatDoor
open Go.RowKit Go.Lib
section
variable {w w' : World} {N l : Nat} {gv gv0 ov : Value} {vs : List Sl3} {G : List (List Chg)} {O : List Chg} {ch co nw : Int}
theorem LogX.added {co' nw':Int} {O':List Chg} (h:LogX w l gv ov vs G O ch co nw) (ha:AddP w l gv ov ch co' nw' O' w') (hne:O'≠[]):LogTo w l gv ov vs G O' ch co' nw' w':=by
 obtain⟨v',hown,hblk,hon,hfr⟩:=ha
 have hkeep:∀ k,k<w.heap.size->k≠l->ov.ownBlock≠some k->w'.heap[k]?=w.heap[k]?:=fun k h1 h2 h3=>hon.block k h1 (fun e=>e.elim h2 h3)
 refine⟨hon.mono (fun k hk=>hk.elim .inl (fun h=>.inr (.inr (.inl h)))),gv,v',vs,⟨hblk,h.gr.kept (fun k e=>hkeep k (h.gr.lt e) (h.s2 k e) (fun e2=>(h.s1 k e2).2 e)),h.len,fun i x g h1 h2=>⟨?_,(h.rows i x g h1 h2).2⟩,hown,fun e=>absurd e hne,?_,h.s2,?_,h.pw⟩,?_⟩
 ·have hx:=List.mem_of_getElem? h1
  exact(h.rows i x g h1 h2).1.kept (fun k e=>hkeep k ((h.rows i x g h1 h2).1.lt e) (h.s3 x hx k e).1 (h.s3 x hx k e).2.2)
 ·intro k hk
  rcases hfr k hk with e|e
  ·exact h.s1 k e
  ·exact⟨by have:=h.blk.lt;omega,fun e2=>by have:=h.gr.lt e2;omega⟩
 ·intro x hx k hk
  refine⟨(h.s3 x hx k hk).1,(h.s3 x hx k hk).2.1,fun e=>?_⟩
  rcases hfr k e with e|e
  ·exact(h.s3 x hx k hk).2.2 e
  ·have:=h.foot_lt (.inr (.inr (.inr ⟨x,hx,hk⟩)));omega
 ·intro k hk
  rcases hk with rfl|hk|hk|hk
  ·exact .inl (.inl rfl)
  ·exact .inl (.inr (.inl hk))
  ·exact(hfr k hk).elim (fun e=>.inl (.inr (.inr (.inl e)))) .inr
  ·exact .inl (.inr (.inr (.inr hk)))
theorem LogTo.comp {w2 y:World} {gz oz:Value} {vz:List Sl3} (hb:Below w.heap.size w w2) (h1:Only (logFoot l gv ov vs) w2 y) (h2:∀ k,logFoot l gz oz vz k->logFoot l gv ov vs k\/w2.heap.size<=k) (h3:LogTo y l gz oz vz G O ch co nw w'):LogTo w l gv ov vs G O ch co nw w':=by
 obtain⟨ho,gv',ov',vs',hx,hf⟩:=h3
 have hs:=hb.size
 have hs1:=h1.size
 refine⟨((Only.of_below hb).trans h1).then ho (fun k hk hlt=>(h2 k hk).elim (fun e=>e) (fun e=>by omega)),gv',ov',vs',hx,fun k hk=>?_⟩
 rcases hf k hk with e|e
 ·exact(h2 k e).imp (fun e=>e) (fun e=>by omega)
 ·exact .inr (by omega)
set_option maxRecDepth 100000 in
set_option maxHeartbeats 4000000 in
theorem lover_n1 {c:Chg} {x:Chg} {K:Nat} (hX:LogX w l gv0 ov vs G O ch co nw) (hx:O[K]?=some x) (hK:O.length=K+1) (hOl:O.length<=1100000) (hc:c.k≠1) (hok:ChgOk c) (hT:Tabs N w) (hR:Rules N w) (h0:0<=nw) (h1:nw+priceC c<=100000000) (h2:1048576<nw+priceC c) :
  Calls Tryz.prog 219 #[.pointer (some ⟨l,0,none⟩),chgV c] w fun e w'=>e=.returned (.int .i64 0)/\LogTo w l gv0 ov vs [] [c] (-1) (priceC c) (priceC c) w':=by
 have HX:=qH hX
 have hv:=hX.op
 have hsep:∀ k,ov.ownBlock=some k->k≠l:=fun k hk=>(hX.s1 k hk).1
 have h:=hX.blk
 have hwl:∀ k,logFoot l gv0 ov vs k->k<w.heap.size:=fun k hk=>hX.foot_lt hk
 have HWL:=qH hwl
 clear hX hwl
 have hwf:∀ k,ov.ownBlock=some k->k<w.heap.size:=fun k hk=>hv.lt hk
 obtain⟨g,cap,rfl,hcap1,hcap2,hgB,hgl,hfz,hat⟩:=hv.lies eltCg (by omega)
 have hgl2:g≠l:=hsep g rfl
 have hlk:w.cell? ⟨g,K*9,none⟩=some (.int .i64 x.k):=hat K x 0 _ hx rfl
 have hlb:w.cell? ⟨g,K*9+2,none⟩=some (.int .i64 x.b):=hat K x 2 _ hx rfl
 clear hat
 have hbx:=below1 w (.cells (chgA c) 121)
 have hbk:=Blk.made w 121 (chgA c)
 have hl0:=h.lt
 have hck:=fun(w':World) (hb:Below w.heap.size w w')=>gcheck hok (hT.up hb) (hR.up hb)
 have hpr:=fun(w':World) (hb:Below w.heap.size w w')=>gprice hok (hT.up hb)
 obtain⟨P,hP⟩:∃ P:Nat,P=priceC c:=⟨_,rfl⟩
 rw[<-hP] at h1 hpr ⊢
 have s1:IntKind.i64.wrap (nw+(P:Int))=nw+P:=IntWalk.i64_in _ (by omega)
 have d1:decide ((1048576:Int)<nw+P)=true:=decide_eq_true (by omega)
 have d1p:((1048576:Int)<nw+P)=True:=eq_true (by omega)
 have HPB:=qH (show P<=100000000 by omega)
 have HPR:=qH hpr
 have s3:IntKind.i64.wrap ((O.length:Int) - 1)=(K:Int):=by rw[IntWalk.i64_in _ (by omega)];omega
 have hKl:K<O.length:=by omega
 have d0:decide ((0:Int)<=(K:Int))=true:=decide_eq_true (by omega)
 have H:=qH (h.up hbx)
 have HV:=qH (hv.up hbx)
 have HBX:=qH hbx
 have HBK:=qH hbk
 have HCK:=qH hck
 obtain⟨k,a,b,id,nm,tx,vk,vn,had⟩:=c
 dsimp only at hc
 have e1:((k:Int) == 1)=false:=by simpa using hc
 have e2:(k=1)=False:=eq_false hc
 clear h hv hbk hck hok hT hR hpr h0 h1 h2 hP hwf hcap1 hgB
 clear hc
 have HLK:=qH (⟨hlk,hlb,hx,hK,hfz,hcap2,hOl,hgl⟩:_/\_/\_/\_/\_/\_/\_/\_)
 clear hlk hlb hx hK hfz hcap2 hOl hsep
 have hWl:Below w.heap.size w (w.alloc (.cells (chgA ⟨k,a,b,id,nm,tx,vk,vn,had⟩) 121)):=hbx
 clear hbx hWl
 go_enter Tryz.func219,Tryz.ntmps219
 go_wp2_with fail
 generalize w.alloc (.cells (chgA ⟨k,a,b,id,nm,tx,vk,vn,had⟩) 121)=W at *
 refine(gnoneL H.out).mono ?_
 rintro e w' ⟨rfl,rfl⟩
 have b0:=HBK.out.cell (j:=0) rfl
 have b1:=HBK.out.cell (j:=1) rfl
 have b2:=HBK.out.cell (j:=2) rfl
 have b3:=HBK.out.cell (j:=3) rfl
 have b4:=HBK.out.cell (j:=4) rfl
 have b5:=HBK.out.cell (j:=5) rfl
 have b6:=HBK.out.cell (j:=6) rfl
 have b7:=HBK.out.cell (j:=7) rfl
 have b8:=HBK.out.cell (j:=8) rfl
 go_wp2_with fail
 refine(HCK.out W HBX.out).mono ?_
 rintro e w1 ⟨rfl,hb1⟩
 have H1:=qH (H.out.up hb1)
 have HV1:=qH (HV.out.up hb1)
 have HBX1:=qH (up2 HBX.out hb1)
 have HBK1:=qH (HBK.out.up hb1)
 clear b0 b1 b2 b3 b4 b5 b6 b7 b8 hb1 H HV HBX HBK HCK
 have b0:=HBK1.out.cell (j:=0) rfl
 have b1:=HBK1.out.cell (j:=1) rfl
 have b2:=HBK1.out.cell (j:=2) rfl
 have b3:=HBK1.out.cell (j:=3) rfl
 have b4:=HBK1.out.cell (j:=4) rfl
 have b5:=HBK1.out.cell (j:=5) rfl
 have b6:=HBK1.out.cell (j:=6) rfl
 have b7:=HBK1.out.cell (j:=7) rfl
 have b8:=HBK1.out.cell (j:=8) rfl
 have l2:=H1.out.cell (j:=2) rfl
 have hlk:w1.cell? ⟨g,K*9,none⟩=_:=(World.cell?_of_block (w:=w) (a:=⟨g,K*9,none⟩) (HBX1.out.block g hgl)).trans HLK.out.1
 have hlb:w1.cell? ⟨g,K*9+2,none⟩=_:=(World.cell?_of_block (w:=w) (a:=⟨g,K*9+2,none⟩) (HBX1.out.block g hgl)).trans HLK.out.2.1
 go_wp2_with fail
 go_region
 go_wp2_with fail
 refine(HPR.out w1.drew (HBX1.out.drew)).mono ?_
 rintro e w2 ⟨rfl,hb2⟩
 have hb2':Below w1.heap.size w1 w2:=up2 ((Below.refl _ w1).drew) hb2
 have H2:=qH (H1.out.up hb2')
 have HV2:=qH (HV1.out.up hb2')
 have HBX2:=qH (up2 HBX1.out hb2')
 have HBK2:=qH (HBK1.out.up hb2')
 clear b0 b1 b2 b3 b4 b5 b6 b7 b8 hb2 hb2' H1 HV1 HBX1 HBK1 HPR l2 hlk hlb
 have l5:=H2.out.cell (j:=5) rfl
 go_wp2_with fail
 refine(lclear (HX.out.up HBX2.out)).mono ?_
 rintro e y ⟨rfl,hto⟩
 have hto2:=hto
 obtain⟨hony,gz,oz,vz,hxy,hfy⟩:=hto2
 obtain rfl:vz=[]:=List.eq_nil_of_length_eq_zero (by have:=hxy.len;simpa using this)
 obtain rfl:oz=.slice none 0 0:=hxy.nil rfl
 obtain⟨gv,hgv⟩:∃ q,q=gz:=⟨_,rfl⟩
 obtain⟨co,hco⟩:∃ q:Int,q=0:=⟨_,rfl⟩
 obtain⟨nw,hnw⟩:∃ q:Int,q=0:=⟨_,rfl⟩
 have hfy2:=hfy
 rw[<-hgv] at hfy2
 have HTO:=qH (⟨HBX2.out,hony,hfy2⟩:_/\_/\_)
 have HXY:Hid (LogX y l gv (.slice none 0 0) [] [] [] (-1) co nw):=qH (by rw[hgv,hco,hnw];exact hxy)
 have H3:Hid (Blk y l 176 (logC gv (.slice none 0 0) (-1) co nw)):=qH HXY.out.blk
 have HBK3:Hid (Blk y w.heap.size 121 _):=qH (HBK2.out.only hony (fun hk=>by have:=HWL.out _ hk;omega))
 have hPB:=HPB.out
 have s1:IntKind.i64.wrap (nw+(P:Int))=nw+P:=IntWalk.i64_in _ (by omega)
 have s2:IntKind.i64.wrap (co+(P:Int))=co+P:=IntWalk.i64_in _ (by omega)
 have HCO:=qH (⟨hco,hnw,hgv⟩:_/\_/\_)
 clear hto hony hxy hfy hfy2 H2 HV2 HBX2 HBK2 l5 hco hnw hgv HX
 go_wp2_with fail
 obtain⟨VV,hVV⟩:∃ VV:Value,VV=(.slice none 0 0):=⟨_,rfl⟩
 have hVB:∀ k,VV.ownBlock=some k->k≠l/\False:=by
  intro k hk
  subst hVV
  simp[Value.ownBlock] at hk
  skip
 obtain⟨v',w3,happ,hown3,hb3,ho3,hblk3⟩:=append_elem eltCg (B:=0) (w:=y.drew) (hVV▸(ROwn.nil 0 _):ROwn encCg 121 9 0 y.drew VV []) (Nat.zero_le _) ⟨k,a,b,id,nm,tx,vk,vn,had⟩ (by simp) (by omega)
 have HP:=qH happ
 have HO3:Hid (Only (fun k=>VV.ownBlock=some k) y w3):=qH (((Only.refl _ y).drew).trans ho3)
 have hon:Only (fun k=>VV.ownBlock=some k) y w3:=HO3.out
 have HON:=qH hon
 have hk3:Blk w3 l 176 _:=H3.out.only HO3.out (fun hk=>(hVB l hk).1 rfl)
 have HK3:=qH hk3
 have HB3:Hid (∀ k,v'.ownBlock=some k->k≠l/\(VV.ownBlock=some k\/y.heap.size<=k)):=qH (fun k hk=>by
  have hly:l<y.heap.size:=H3.out.lt
  rcases hblk3 with e|⟨g3,e,hg3⟩
  ·rw[e] at hk;exact⟨(hVB k hk).1,.inl hk⟩
  ·rw[e] at hk;cases hk;exact⟨by have:y.drew.heap.size<=k:=hg3;have:y.drew.heap.size=y.heap.size:=rfl;omega,.inr (by have:y.drew.heap.size<=k:=hg3;have:y.drew.heap.size=y.heap.size:=rfl;omega)⟩)
 have C2:∀ x:OnW (fun k=>VV.ownBlock=some k) y,x.w.cell? ⟨l,2,none⟩=some (.slice none 0 0):=fun x=>(H3.out.only x.on (fun hk=>(hVB l hk).1 rfl)).cell (j:=2) rfl
 have CB:∀ x:OnW (fun k=>VV.ownBlock=some k) y,Blk x.w w.heap.size 121 _:=fun x=>HBK3.out.only x.on (fun hk=>by exact(hVB _ hk).2.elim)
 have b0:=fun x=>(CB x).cell (j:=0) rfl
 have b1:=fun x=>(CB x).cell (j:=1) rfl
 have b2:=fun x=>(CB x).cell (j:=2) rfl
 have b3:=fun x=>(CB x).cell (j:=3) rfl
 have b4:=fun x=>(CB x).cell (j:=4) rfl
 have b5:=fun x=>(CB x).cell (j:=5) rfl
 have b6:=fun x=>(CB x).cell (j:=6) rfl
 have b7:=fun x=>(CB x).cell (j:=7) rfl
 have b8:=fun x=>(CB x).cell (j:=8) rfl
 clear CB happ ho3 hon hk3 hb3 hblk3
 refine wp_region_mixO (fun k=>VV.ownBlock=some k) 10 (.one [0,1,2,3,4,5] 6 (.one [] 7 (.done [8,9]))) (by kernel_rfl) (fun c d v a w h=>by cases d<;>exact h) (by kernel_rfl) ?_
 simp only[wpMixT,pk_nil,pk_cons,pushAt_zero,pushAt_succ,List.drop_succ_cons,List.drop_zero]
 repeat (go_big_quiet_step (fail))
 refine wpQuiet_nil ?_
 clear b0 b1 b2 b3 b4 b5 b6 b7 b8
 have HVV:=qH hVV
 subst hVV
 clear HVV
 go_wp2_with fail
 refine thenQ_normal ⟨⟨⟨_,(Only.refl _ y).drew.alloc _⟩,rfl⟩,?_⟩
 refine wpQuiet_nil ?_
 refine wpList_app_run rfl _ _ _ rfl rfl rfl HP.out ?_
 go_wp2_with fail
 refine thenQ_normal ⟨⟨⟨_,HO3.out⟩,rfl⟩,?_⟩
 repeat (go_big_quiet_step (fail))
 refine wpQuiet_nil ?_
 clear C2
 have HOW:=qH hown3
 obtain⟨A',cap',hv'q,_,_,_⟩:=hown3.shape eltCg
 have hll:([]++[(⟨k,a,b,id,nm,tx,vk,vn,had⟩:Chg)]).length=1:=by simp
 rw[hll] at hv'q
 subst hv'q
 clear hown3 hll
 have f2:=HK3.out.fz 2
 have k2:=HK3.out.cell (j:=2) rfl
 have hsw:y.heap.size<=w3.heap.size:=HON.out.size
 have hk4:=HK3.out.set (j:=2) (by simp) (.slice A' 1 cap')
 have HW4:=qH (HOW.out.kept (w':=w3.setCell ⟨l,2,none⟩ (.slice A' 1 cap')) (fun g hg=>Below.heap_setCell _ _ _ _ (HB3.out g hg).1))
 have HO4:=qH ((HON.out.mono (T:=fun k=>k=l\/(Value.slice none 0 0).ownBlock=some k) (fun k hk=>.inr hk)).setCell (p:=⟨l,2,none⟩) (.inl rfl) (.slice A' 1 cap'))
 have HK4:=qH hk4
 clear hk4
 go_wp2_with fail
 generalize w3.setCell ⟨l,2,none⟩ (.slice A' 1 cap')=w4 at *
 have m4:=HK4.out.cell (j:=4) rfl
 have m5:=HK4.out.cell (j:=5) rfl
 have f4:=HK4.out.fz 4
 have f5:=HK4.out.fz 5
 go_region
 go_wp2_with fail
 go_ret
 have hk6:=(HK4.out.set (j:=4) (by simp) (.int .i64 (co+P))).set (j:=5) (by simp) (.int .i64 (nw+P))
 have hadd:AddP y l gv (.slice none 0 0) (-1) (co+P) (nw+P) [⟨k,a,b,id,nm,tx,vk,vn,had⟩] (((w4.setCell ⟨l,4,none⟩ (.int .i64 (co+P))).setCell ⟨l,5,none⟩ (.int .i64 (nw+P))).drew):=by
  refine⟨_,?_,hk6,((HO4.out.setCell (p:=⟨l,4,none⟩) (.inl rfl) (.int .i64 (co+P))).setCell (p:=⟨l,5,none⟩) (.inl rfl) (.int .i64 (nw+P))).drew,fun k hk=>(HB3.out k hk).2⟩
  exact HW4.out.kept (fun g hg=>by
   have h1:=(HB3.out g hg).1
   exact(Below.heap_setCell (w4.setCell ⟨l,4,none⟩ (.int .i64 (co+P))) ⟨l,5,none⟩ (.int .i64 (nw+P)) g h1).trans (Below.heap_setCell w4 ⟨l,4,none⟩ (.int .i64 (co+P)) g h1))
 obtain⟨hco,hnw,hgv⟩:=HCO.out
 have hz1:co+(P:Int)=P:=by omega
 have hz2:nw+(P:Int)=P:=by omega
 obtain⟨q1,q2,q3⟩:=HTO.out
 have hto:=LogTo.comp q1 q2 q3 (HXY.out.added hadd (by simp))
 rw[hz1,hz2] at hto
 exact⟨rfl,by rw[hz1,hz2];exact hto⟩
set_option maxRecDepth 100000 in
set_option maxHeartbeats 4000000 in
theorem lover_n2 {c:Chg} {x:Chg} {K:Nat} (hX:LogX w l gv0 ov vs G O ch co nw) (hx:O[K]?=some x) (hK:O.length=K+1) (hOl:O.length<=1100000) (hc:c.k=1/\x.k≠1) (hok:ChgOk c) (hT:Tabs N w) (hR:Rules N w) (h0:0<=nw) (h1:nw+priceC c<=100000000) (h2:1048576<nw+priceC c) :
  Calls Tryz.prog 219 #[.pointer (some ⟨l,0,none⟩),chgV c] w fun e w'=>e=.returned (.int .i64 0)/\LogTo w l gv0 ov vs [] [c] (-1) (priceC c) (priceC c) w':=by
 have HX:=qH hX
 have hv:=hX.op
 have hsep:∀ k,ov.ownBlock=some k->k≠l:=fun k hk=>(hX.s1 k hk).1
 have h:=hX.blk
 have hwl:∀ k,logFoot l gv0 ov vs k->k<w.heap.size:=fun k hk=>hX.foot_lt hk
 have HWL:=qH hwl
 clear hX hwl
 have hwf:∀ k,ov.ownBlock=some k->k<w.heap.size:=fun k hk=>hv.lt hk
 obtain⟨g,cap,rfl,hcap1,hcap2,hgB,hgl,hfz,hat⟩:=hv.lies eltCg (by omega)
 have hgl2:g≠l:=hsep g rfl
 have hlk:w.cell? ⟨g,K*9,none⟩=some (.int .i64 x.k):=hat K x 0 _ hx rfl
 have hlb:w.cell? ⟨g,K*9+2,none⟩=some (.int .i64 x.b):=hat K x 2 _ hx rfl
 clear hat
 have hbx:=below1 w (.cells (chgA c) 121)
 have hbk:=Blk.made w 121 (chgA c)
 have hl0:=h.lt
 have hck:=fun(w':World) (hb:Below w.heap.size w w')=>gcheck hok (hT.up hb) (hR.up hb)
 have hpr:=fun(w':World) (hb:Below w.heap.size w w')=>gprice hok (hT.up hb)
 obtain⟨P,hP⟩:∃ P:Nat,P=priceC c:=⟨_,rfl⟩
 rw[<-hP] at h1 hpr ⊢
 have s1:IntKind.i64.wrap (nw+(P:Int))=nw+P:=IntWalk.i64_in _ (by omega)
 have d1:decide ((1048576:Int)<nw+P)=true:=decide_eq_true (by omega)
 have d1p:((1048576:Int)<nw+P)=True:=eq_true (by omega)
 have HPB:=qH (show P<=100000000 by omega)
 have HPR:=qH hpr
 have s3:IntKind.i64.wrap ((O.length:Int) - 1)=(K:Int):=by rw[IntWalk.i64_in _ (by omega)];omega
 have hKl:K<O.length:=by omega
 have d0:decide ((0:Int)<=(K:Int))=true:=decide_eq_true (by omega)
 have H:=qH (h.up hbx)
 have HV:=qH (hv.up hbx)
 have HBX:=qH hbx
 have HBK:=qH hbk
 have HCK:=qH hck
 obtain⟨k,a,b,id,nm,tx,vk,vn,had⟩:=c
 obtain⟨hck1,hc⟩:=hc
 dsimp only at hck1
 subst hck1
 have e1:((x.k:Int) == 1)=false:=by simpa using hc
 have e2:(x.k=1)=False:=eq_false hc
 clear h hv hbk hck hok hT hR hpr h0 h1 h2 hP hwf hcap1 hgB
 clear hc
 have HLK:=qH (⟨hlk,hlb,hx,hK,hfz,hcap2,hOl,hgl⟩:_/\_/\_/\_/\_/\_/\_/\_)
 clear hlk hlb hx hK hfz hcap2 hOl hsep
 have hWl:Below w.heap.size w (w.alloc (.cells (chgA ⟨1,a,b,id,nm,tx,vk,vn,had⟩) 121)):=hbx
 clear hbx hWl
 go_enter Tryz.func219,Tryz.ntmps219
 go_wp2_with fail
 generalize w.alloc (.cells (chgA ⟨1,a,b,id,nm,tx,vk,vn,had⟩) 121)=W at *
 refine(gnoneL H.out).mono ?_
 rintro e w' ⟨rfl,rfl⟩
 have b0:=HBK.out.cell (j:=0) rfl
 have b1:=HBK.out.cell (j:=1) rfl
 have b2:=HBK.out.cell (j:=2) rfl
 have b3:=HBK.out.cell (j:=3) rfl
 have b4:=HBK.out.cell (j:=4) rfl
 have b5:=HBK.out.cell (j:=5) rfl
 have b6:=HBK.out.cell (j:=6) rfl
 have b7:=HBK.out.cell (j:=7) rfl
 have b8:=HBK.out.cell (j:=8) rfl
 go_wp2_with fail
 refine(HCK.out W HBX.out).mono ?_
 rintro e w1 ⟨rfl,hb1⟩
 have H1:=qH (H.out.up hb1)
 have HV1:=qH (HV.out.up hb1)
 have HBX1:=qH (up2 HBX.out hb1)
 have HBK1:=qH (HBK.out.up hb1)
 clear b0 b1 b2 b3 b4 b5 b6 b7 b8 hb1 H HV HBX HBK HCK
 have b0:=HBK1.out.cell (j:=0) rfl
 have b1:=HBK1.out.cell (j:=1) rfl
 have b2:=HBK1.out.cell (j:=2) rfl
 have b3:=HBK1.out.cell (j:=3) rfl
 have b4:=HBK1.out.cell (j:=4) rfl
 have b5:=HBK1.out.cell (j:=5) rfl
 have b6:=HBK1.out.cell (j:=6) rfl
 have b7:=HBK1.out.cell (j:=7) rfl
 have b8:=HBK1.out.cell (j:=8) rfl
 have l2:=H1.out.cell (j:=2) rfl
 have hlk:w1.cell? ⟨g,K*9,none⟩=_:=(World.cell?_of_block (w:=w) (a:=⟨g,K*9,none⟩) (HBX1.out.block g hgl)).trans HLK.out.1
 have hlb:w1.cell? ⟨g,K*9+2,none⟩=_:=(World.cell?_of_block (w:=w) (a:=⟨g,K*9+2,none⟩) (HBX1.out.block g hgl)).trans HLK.out.2.1
 go_wp2_with fail
 go_region
 go_wp2_with fail
 refine(HPR.out w1.drew (HBX1.out.drew)).mono ?_
 rintro e w2 ⟨rfl,hb2⟩
 have hb2':Below w1.heap.size w1 w2:=up2 ((Below.refl _ w1).drew) hb2
 have H2:=qH (H1.out.up hb2')
 have HV2:=qH (HV1.out.up hb2')
 have HBX2:=qH (up2 HBX1.out hb2')
 have HBK2:=qH (HBK1.out.up hb2')
 clear b0 b1 b2 b3 b4 b5 b6 b7 b8 hb2 hb2' H1 HV1 HBX1 HBK1 HPR l2 hlk hlb
 have l5:=H2.out.cell (j:=5) rfl
 go_wp2_with fail
 refine(lclear (HX.out.up HBX2.out)).mono ?_
 rintro e y ⟨rfl,hto⟩
 have hto2:=hto
 obtain⟨hony,gz,oz,vz,hxy,hfy⟩:=hto2
 obtain rfl:vz=[]:=List.eq_nil_of_length_eq_zero (by have:=hxy.len;simpa using this)
 obtain rfl:oz=.slice none 0 0:=hxy.nil rfl
 obtain⟨gv,hgv⟩:∃ q,q=gz:=⟨_,rfl⟩
 obtain⟨co,hco⟩:∃ q:Int,q=0:=⟨_,rfl⟩
 obtain⟨nw,hnw⟩:∃ q:Int,q=0:=⟨_,rfl⟩
 have hfy2:=hfy
 rw[<-hgv] at hfy2
 have HTO:=qH (⟨HBX2.out,hony,hfy2⟩:_/\_/\_)
 have HXY:Hid (LogX y l gv (.slice none 0 0) [] [] [] (-1) co nw):=qH (by rw[hgv,hco,hnw];exact hxy)
 have H3:Hid (Blk y l 176 (logC gv (.slice none 0 0) (-1) co nw)):=qH HXY.out.blk
 have HBK3:Hid (Blk y w.heap.size 121 _):=qH (HBK2.out.only hony (fun hk=>by have:=HWL.out _ hk;omega))
 have hPB:=HPB.out
 have s1:IntKind.i64.wrap (nw+(P:Int))=nw+P:=IntWalk.i64_in _ (by omega)
 have s2:IntKind.i64.wrap (co+(P:Int))=co+P:=IntWalk.i64_in _ (by omega)
 have HCO:=qH (⟨hco,hnw,hgv⟩:_/\_/\_)
 clear hto hony hxy hfy hfy2 H2 HV2 HBX2 HBK2 l5 hco hnw hgv HX
 go_wp2_with fail
 obtain⟨VV,hVV⟩:∃ VV:Value,VV=(.slice none 0 0):=⟨_,rfl⟩
 have hVB:∀ k,VV.ownBlock=some k->k≠l/\False:=by
  intro k hk
  subst hVV
  simp[Value.ownBlock] at hk
  skip
 obtain⟨v',w3,happ,hown3,hb3,ho3,hblk3⟩:=append_elem eltCg (B:=0) (w:=y.drew) (hVV▸(ROwn.nil 0 _):ROwn encCg 121 9 0 y.drew VV []) (Nat.zero_le _) ⟨1,a,b,id,nm,tx,vk,vn,had⟩ (by simp) (by omega)
 have HP:=qH happ
 have HO3:Hid (Only (fun k=>VV.ownBlock=some k) y w3):=qH (((Only.refl _ y).drew).trans ho3)
 have hon:Only (fun k=>VV.ownBlock=some k) y w3:=HO3.out
 have HON:=qH hon
 have hk3:Blk w3 l 176 _:=H3.out.only HO3.out (fun hk=>(hVB l hk).1 rfl)
 have HK3:=qH hk3
 have HB3:Hid (∀ k,v'.ownBlock=some k->k≠l/\(VV.ownBlock=some k\/y.heap.size<=k)):=qH (fun k hk=>by
  have hly:l<y.heap.size:=H3.out.lt
  rcases hblk3 with e|⟨g3,e,hg3⟩
  ·rw[e] at hk;exact⟨(hVB k hk).1,.inl hk⟩
  ·rw[e] at hk;cases hk;exact⟨by have:y.drew.heap.size<=k:=hg3;have:y.drew.heap.size=y.heap.size:=rfl;omega,.inr (by have:y.drew.heap.size<=k:=hg3;have:y.drew.heap.size=y.heap.size:=rfl;omega)⟩)
 have C2:∀ x:OnW (fun k=>VV.ownBlock=some k) y,x.w.cell? ⟨l,2,none⟩=some (.slice none 0 0):=fun x=>(H3.out.only x.on (fun hk=>(hVB l hk).1 rfl)).cell (j:=2) rfl
 have CB:∀ x:OnW (fun k=>VV.ownBlock=some k) y,Blk x.w w.heap.size 121 _:=fun x=>HBK3.out.only x.on (fun hk=>by exact(hVB _ hk).2.elim)
 have b0:=fun x=>(CB x).cell (j:=0) rfl
 have b1:=fun x=>(CB x).cell (j:=1) rfl
 have b2:=fun x=>(CB x).cell (j:=2) rfl
 have b3:=fun x=>(CB x).cell (j:=3) rfl
 have b4:=fun x=>(CB x).cell (j:=4) rfl
 have b5:=fun x=>(CB x).cell (j:=5) rfl
 have b6:=fun x=>(CB x).cell (j:=6) rfl
 have b7:=fun x=>(CB x).cell (j:=7) rfl
 have b8:=fun x=>(CB x).cell (j:=8) rfl
 clear CB happ ho3 hon hk3 hb3 hblk3
 refine wp_region_mixO (fun k=>VV.ownBlock=some k) 10 (.one [0,1,2,3,4,5] 6 (.one [] 7 (.done [8,9]))) (by kernel_rfl) (fun c d v a w h=>by cases d<;>exact h) (by kernel_rfl) ?_
 simp only[wpMixT,pk_nil,pk_cons,pushAt_zero,pushAt_succ,List.drop_succ_cons,List.drop_zero]
 repeat (go_big_quiet_step (fail))
 refine wpQuiet_nil ?_
 clear b0 b1 b2 b3 b4 b5 b6 b7 b8
 have HVV:=qH hVV
 subst hVV
 clear HVV
 go_wp2_with fail
 refine thenQ_normal ⟨⟨⟨_,(Only.refl _ y).drew.alloc _⟩,rfl⟩,?_⟩
 refine wpQuiet_nil ?_
 refine wpList_app_run rfl _ _ _ rfl rfl rfl HP.out ?_
 go_wp2_with fail
 refine thenQ_normal ⟨⟨⟨_,HO3.out⟩,rfl⟩,?_⟩
 repeat (go_big_quiet_step (fail))
 refine wpQuiet_nil ?_
 clear C2
 have HOW:=qH hown3
 obtain⟨A',cap',hv'q,_,_,_⟩:=hown3.shape eltCg
 have hll:([]++[(⟨1,a,b,id,nm,tx,vk,vn,had⟩:Chg)]).length=1:=by simp
 rw[hll] at hv'q
 subst hv'q
 clear hown3 hll
 have f2:=HK3.out.fz 2
 have k2:=HK3.out.cell (j:=2) rfl
 have hsw:y.heap.size<=w3.heap.size:=HON.out.size
 have hk4:=HK3.out.set (j:=2) (by simp) (.slice A' 1 cap')
 have HW4:=qH (HOW.out.kept (w':=w3.setCell ⟨l,2,none⟩ (.slice A' 1 cap')) (fun g hg=>Below.heap_setCell _ _ _ _ (HB3.out g hg).1))
 have HO4:=qH ((HON.out.mono (T:=fun k=>k=l\/(Value.slice none 0 0).ownBlock=some k) (fun k hk=>.inr hk)).setCell (p:=⟨l,2,none⟩) (.inl rfl) (.slice A' 1 cap'))
 have HK4:=qH hk4
 clear hk4
 go_wp2_with fail
 generalize w3.setCell ⟨l,2,none⟩ (.slice A' 1 cap')=w4 at *
 have m4:=HK4.out.cell (j:=4) rfl
 have m5:=HK4.out.cell (j:=5) rfl
 have f4:=HK4.out.fz 4
 have f5:=HK4.out.fz 5
 go_region
 go_wp2_with fail
 go_ret
 have hk6:=(HK4.out.set (j:=4) (by simp) (.int .i64 (co+P))).set (j:=5) (by simp) (.int .i64 (nw+P))
 have hadd:AddP y l gv (.slice none 0 0) (-1) (co+P) (nw+P) [⟨1,a,b,id,nm,tx,vk,vn,had⟩] (((w4.setCell ⟨l,4,none⟩ (.int .i64 (co+P))).setCell ⟨l,5,none⟩ (.int .i64 (nw+P))).drew):=by
  refine⟨_,?_,hk6,((HO4.out.setCell (p:=⟨l,4,none⟩) (.inl rfl) (.int .i64 (co+P))).setCell (p:=⟨l,5,none⟩) (.inl rfl) (.int .i64 (nw+P))).drew,fun k hk=>(HB3.out k hk).2⟩
  exact HW4.out.kept (fun g hg=>by
   have h1:=(HB3.out g hg).1
   exact(Below.heap_setCell (w4.setCell ⟨l,4,none⟩ (.int .i64 (co+P))) ⟨l,5,none⟩ (.int .i64 (nw+P)) g h1).trans (Below.heap_setCell w4 ⟨l,4,none⟩ (.int .i64 (co+P)) g h1))
 obtain⟨hco,hnw,hgv⟩:=HCO.out
 have hz1:co+(P:Int)=P:=by omega
 have hz2:nw+(P:Int)=P:=by omega
 obtain⟨q1,q2,q3⟩:=HTO.out
 have hto:=LogTo.comp q1 q2 q3 (HXY.out.added hadd (by simp))
 rw[hz1,hz2] at hto
 exact⟨rfl,by rw[hz1,hz2];exact hto⟩
set_option maxRecDepth 100000 in
set_option maxHeartbeats 4000000 in
theorem lover_n3 {c:Chg} {x:Chg} {K:Nat} (hX:LogX w l gv0 ov vs G O ch co nw) (hx:O[K]?=some x) (hK:O.length=K+1) (hOl:O.length<=1100000) (hc:c.k=1/\x.k=1/\x.b≠c.a) (hok:ChgOk c) (hT:Tabs N w) (hR:Rules N w) (h0:0<=nw) (h1:nw+priceC c<=100000000) (h2:1048576<nw+priceC c) :
  Calls Tryz.prog 219 #[.pointer (some ⟨l,0,none⟩),chgV c] w fun e w'=>e=.returned (.int .i64 0)/\LogTo w l gv0 ov vs [] [c] (-1) (priceC c) (priceC c) w':=by
 have HX:=qH hX
 have hv:=hX.op
 have hsep:∀ k,ov.ownBlock=some k->k≠l:=fun k hk=>(hX.s1 k hk).1
 have h:=hX.blk
 have hwl:∀ k,logFoot l gv0 ov vs k->k<w.heap.size:=fun k hk=>hX.foot_lt hk
 have HWL:=qH hwl
 clear hX hwl
 have hwf:∀ k,ov.ownBlock=some k->k<w.heap.size:=fun k hk=>hv.lt hk
 obtain⟨g,cap,rfl,hcap1,hcap2,hgB,hgl,hfz,hat⟩:=hv.lies eltCg (by omega)
 have hgl2:g≠l:=hsep g rfl
 have hlk:w.cell? ⟨g,K*9,none⟩=some (.int .i64 x.k):=hat K x 0 _ hx rfl
 have hlb:w.cell? ⟨g,K*9+2,none⟩=some (.int .i64 x.b):=hat K x 2 _ hx rfl
 clear hat
 have hbx:=below1 w (.cells (chgA c) 121)
 have hbk:=Blk.made w 121 (chgA c)
 have hl0:=h.lt
 have hck:=fun(w':World) (hb:Below w.heap.size w w')=>gcheck hok (hT.up hb) (hR.up hb)
 have hpr:=fun(w':World) (hb:Below w.heap.size w w')=>gprice hok (hT.up hb)
 obtain⟨P,hP⟩:∃ P:Nat,P=priceC c:=⟨_,rfl⟩
 rw[<-hP] at h1 hpr ⊢
 have s1:IntKind.i64.wrap (nw+(P:Int))=nw+P:=IntWalk.i64_in _ (by omega)
 have d1:decide ((1048576:Int)<nw+P)=true:=decide_eq_true (by omega)
 have d1p:((1048576:Int)<nw+P)=True:=eq_true (by omega)
 have HPB:=qH (show P<=100000000 by omega)
 have HPR:=qH hpr
 have s3:IntKind.i64.wrap ((O.length:Int) - 1)=(K:Int):=by rw[IntWalk.i64_in _ (by omega)];omega
 have hKl:K<O.length:=by omega
 have d0:decide ((0:Int)<=(K:Int))=true:=decide_eq_true (by omega)
 have H:=qH (h.up hbx)
 have HV:=qH (hv.up hbx)
 have HBX:=qH hbx
 have HBK:=qH hbk
 have HCK:=qH hck
 obtain⟨k,a,b,id,nm,tx,vk,vn,had⟩:=c
 obtain⟨hck1,hc⟩:=hc
 dsimp only at hck1
 subst hck1
 obtain⟨hcx,hc⟩:=hc
 dsimp only at hc
 rw[hcx] at hlk
 have e1:((x.b:Int) == a)=false:=by simpa using hc
 have e2:(x.b=a)=False:=eq_false hc
 clear h hv hbk hck hok hT hR hpr h0 h1 h2 hP hwf hcap1 hgB
 clear hc hcx
 have HLK:=qH (⟨hlk,hlb,hx,hK,hfz,hcap2,hOl,hgl⟩:_/\_/\_/\_/\_/\_/\_/\_)
 clear hlk hlb hx hK hfz hcap2 hOl hsep
 have hWl:Below w.heap.size w (w.alloc (.cells (chgA ⟨1,a,b,id,nm,tx,vk,vn,had⟩) 121)):=hbx
 clear hbx hWl
 go_enter Tryz.func219,Tryz.ntmps219
 go_wp2_with fail
 generalize w.alloc (.cells (chgA ⟨1,a,b,id,nm,tx,vk,vn,had⟩) 121)=W at *
 refine(gnoneL H.out).mono ?_
 rintro e w' ⟨rfl,rfl⟩
 have b0:=HBK.out.cell (j:=0) rfl
 have b1:=HBK.out.cell (j:=1) rfl
 have b2:=HBK.out.cell (j:=2) rfl
 have b3:=HBK.out.cell (j:=3) rfl
 have b4:=HBK.out.cell (j:=4) rfl
 have b5:=HBK.out.cell (j:=5) rfl
 have b6:=HBK.out.cell (j:=6) rfl
 have b7:=HBK.out.cell (j:=7) rfl
 have b8:=HBK.out.cell (j:=8) rfl
 go_wp2_with fail
 refine(HCK.out W HBX.out).mono ?_
 rintro e w1 ⟨rfl,hb1⟩
 have H1:=qH (H.out.up hb1)
 have HV1:=qH (HV.out.up hb1)
 have HBX1:=qH (up2 HBX.out hb1)
 have HBK1:=qH (HBK.out.up hb1)
 clear b0 b1 b2 b3 b4 b5 b6 b7 b8 hb1 H HV HBX HBK HCK
 have b0:=HBK1.out.cell (j:=0) rfl
 have b1:=HBK1.out.cell (j:=1) rfl
 have b2:=HBK1.out.cell (j:=2) rfl
 have b3:=HBK1.out.cell (j:=3) rfl
 have b4:=HBK1.out.cell (j:=4) rfl
 have b5:=HBK1.out.cell (j:=5) rfl
 have b6:=HBK1.out.cell (j:=6) rfl
 have b7:=HBK1.out.cell (j:=7) rfl
 have b8:=HBK1.out.cell (j:=8) rfl
 have l2:=H1.out.cell (j:=2) rfl
 have hlk:w1.cell? ⟨g,K*9,none⟩=_:=(World.cell?_of_block (w:=w) (a:=⟨g,K*9,none⟩) (HBX1.out.block g hgl)).trans HLK.out.1
 have hlb:w1.cell? ⟨g,K*9+2,none⟩=_:=(World.cell?_of_block (w:=w) (a:=⟨g,K*9+2,none⟩) (HBX1.out.block g hgl)).trans HLK.out.2.1
 go_wp2_with fail
 go_region
 go_wp2_with fail
 refine(HPR.out w1.drew (HBX1.out.drew)).mono ?_
 rintro e w2 ⟨rfl,hb2⟩
 have hb2':Below w1.heap.size w1 w2:=up2 ((Below.refl _ w1).drew) hb2
 have H2:=qH (H1.out.up hb2')
 have HV2:=qH (HV1.out.up hb2')
 have HBX2:=qH (up2 HBX1.out hb2')
 have HBK2:=qH (HBK1.out.up hb2')
 clear b0 b1 b2 b3 b4 b5 b6 b7 b8 hb2 hb2' H1 HV1 HBX1 HBK1 HPR l2 hlk hlb
 have l5:=H2.out.cell (j:=5) rfl
 go_wp2_with fail
 refine(lclear (HX.out.up HBX2.out)).mono ?_
 rintro e y ⟨rfl,hto⟩
 have hto2:=hto
 obtain⟨hony,gz,oz,vz,hxy,hfy⟩:=hto2
 obtain rfl:vz=[]:=List.eq_nil_of_length_eq_zero (by have:=hxy.len;simpa using this)
 obtain rfl:oz=.slice none 0 0:=hxy.nil rfl
 obtain⟨gv,hgv⟩:∃ q,q=gz:=⟨_,rfl⟩
 obtain⟨co,hco⟩:∃ q:Int,q=0:=⟨_,rfl⟩
 obtain⟨nw,hnw⟩:∃ q:Int,q=0:=⟨_,rfl⟩
 have hfy2:=hfy
 rw[<-hgv] at hfy2
 have HTO:=qH (⟨HBX2.out,hony,hfy2⟩:_/\_/\_)
 have HXY:Hid (LogX y l gv (.slice none 0 0) [] [] [] (-1) co nw):=qH (by rw[hgv,hco,hnw];exact hxy)
 have H3:Hid (Blk y l 176 (logC gv (.slice none 0 0) (-1) co nw)):=qH HXY.out.blk
 have HBK3:Hid (Blk y w.heap.size 121 _):=qH (HBK2.out.only hony (fun hk=>by have:=HWL.out _ hk;omega))
 have hPB:=HPB.out
 have s1:IntKind.i64.wrap (nw+(P:Int))=nw+P:=IntWalk.i64_in _ (by omega)
 have s2:IntKind.i64.wrap (co+(P:Int))=co+P:=IntWalk.i64_in _ (by omega)
 have HCO:=qH (⟨hco,hnw,hgv⟩:_/\_/\_)
 clear hto hony hxy hfy hfy2 H2 HV2 HBX2 HBK2 l5 hco hnw hgv HX
 go_wp2_with fail
 obtain⟨VV,hVV⟩:∃ VV:Value,VV=(.slice none 0 0):=⟨_,rfl⟩
 have hVB:∀ k,VV.ownBlock=some k->k≠l/\False:=by
  intro k hk
  subst hVV
  simp[Value.ownBlock] at hk
  skip
 obtain⟨v',w3,happ,hown3,hb3,ho3,hblk3⟩:=append_elem eltCg (B:=0) (w:=y.drew) (hVV▸(ROwn.nil 0 _):ROwn encCg 121 9 0 y.drew VV []) (Nat.zero_le _) ⟨1,a,b,id,nm,tx,vk,vn,had⟩ (by simp) (by omega)
 have HP:=qH happ
 have HO3:Hid (Only (fun k=>VV.ownBlock=some k) y w3):=qH (((Only.refl _ y).drew).trans ho3)
 have hon:Only (fun k=>VV.ownBlock=some k) y w3:=HO3.out
 have HON:=qH hon
 have hk3:Blk w3 l 176 _:=H3.out.only HO3.out (fun hk=>(hVB l hk).1 rfl)
 have HK3:=qH hk3
 have HB3:Hid (∀ k,v'.ownBlock=some k->k≠l/\(VV.ownBlock=some k\/y.heap.size<=k)):=qH (fun k hk=>by
  have hly:l<y.heap.size:=H3.out.lt
  rcases hblk3 with e|⟨g3,e,hg3⟩
  ·rw[e] at hk;exact⟨(hVB k hk).1,.inl hk⟩
  ·rw[e] at hk;cases hk;exact⟨by have:y.drew.heap.size<=k:=hg3;have:y.drew.heap.size=y.heap.size:=rfl;omega,.inr (by have:y.drew.heap.size<=k:=hg3;have:y.drew.heap.size=y.heap.size:=rfl;omega)⟩)
 have C2:∀ x:OnW (fun k=>VV.ownBlock=some k) y,x.w.cell? ⟨l,2,none⟩=some (.slice none 0 0):=fun x=>(H3.out.only x.on (fun hk=>(hVB l hk).1 rfl)).cell (j:=2) rfl
 have CB:∀ x:OnW (fun k=>VV.ownBlock=some k) y,Blk x.w w.heap.size 121 _:=fun x=>HBK3.out.only x.on (fun hk=>by exact(hVB _ hk).2.elim)
 have b0:=fun x=>(CB x).cell (j:=0) rfl
 have b1:=fun x=>(CB x).cell (j:=1) rfl
 have b2:=fun x=>(CB x).cell (j:=2) rfl
 have b3:=fun x=>(CB x).cell (j:=3) rfl
 have b4:=fun x=>(CB x).cell (j:=4) rfl
 have b5:=fun x=>(CB x).cell (j:=5) rfl
 have b6:=fun x=>(CB x).cell (j:=6) rfl
 have b7:=fun x=>(CB x).cell (j:=7) rfl
 have b8:=fun x=>(CB x).cell (j:=8) rfl
 clear CB happ ho3 hon hk3 hb3 hblk3
 refine wp_region_mixO (fun k=>VV.ownBlock=some k) 10 (.one [0,1,2,3,4,5] 6 (.one [] 7 (.done [8,9]))) (by kernel_rfl) (fun c d v a w h=>by cases d<;>exact h) (by kernel_rfl) ?_
 simp only[wpMixT,pk_nil,pk_cons,pushAt_zero,pushAt_succ,List.drop_succ_cons,List.drop_zero]
 repeat (go_big_quiet_step (fail))
 refine wpQuiet_nil ?_
 clear b0 b1 b2 b3 b4 b5 b6 b7 b8
 have HVV:=qH hVV
 subst hVV
 clear HVV
 go_wp2_with fail
 refine thenQ_normal ⟨⟨⟨_,(Only.refl _ y).drew.alloc _⟩,rfl⟩,?_⟩
 refine wpQuiet_nil ?_
 refine wpList_app_run rfl _ _ _ rfl rfl rfl HP.out ?_
 go_wp2_with fail
 refine thenQ_normal ⟨⟨⟨_,HO3.out⟩,rfl⟩,?_⟩
 repeat (go_big_quiet_step (fail))
 refine wpQuiet_nil ?_
 clear C2
 have HOW:=qH hown3
 obtain⟨A',cap',hv'q,_,_,_⟩:=hown3.shape eltCg
 have hll:([]++[(⟨1,a,b,id,nm,tx,vk,vn,had⟩:Chg)]).length=1:=by simp
 rw[hll] at hv'q
 subst hv'q
 clear hown3 hll
 have f2:=HK3.out.fz 2
 have k2:=HK3.out.cell (j:=2) rfl
 have hsw:y.heap.size<=w3.heap.size:=HON.out.size
 have hk4:=HK3.out.set (j:=2) (by simp) (.slice A' 1 cap')
 have HW4:=qH (HOW.out.kept (w':=w3.setCell ⟨l,2,none⟩ (.slice A' 1 cap')) (fun g hg=>Below.heap_setCell _ _ _ _ (HB3.out g hg).1))
 have HO4:=qH ((HON.out.mono (T:=fun k=>k=l\/(Value.slice none 0 0).ownBlock=some k) (fun k hk=>.inr hk)).setCell (p:=⟨l,2,none⟩) (.inl rfl) (.slice A' 1 cap'))
 have HK4:=qH hk4
 clear hk4
 go_wp2_with fail
 generalize w3.setCell ⟨l,2,none⟩ (.slice A' 1 cap')=w4 at *
 have m4:=HK4.out.cell (j:=4) rfl
 have m5:=HK4.out.cell (j:=5) rfl
 have f4:=HK4.out.fz 4
 have f5:=HK4.out.fz 5
 go_region
 go_wp2_with fail
 go_ret
 have hk6:=(HK4.out.set (j:=4) (by simp) (.int .i64 (co+P))).set (j:=5) (by simp) (.int .i64 (nw+P))
 have hadd:AddP y l gv (.slice none 0 0) (-1) (co+P) (nw+P) [⟨1,a,b,id,nm,tx,vk,vn,had⟩] (((w4.setCell ⟨l,4,none⟩ (.int .i64 (co+P))).setCell ⟨l,5,none⟩ (.int .i64 (nw+P))).drew):=by
  refine⟨_,?_,hk6,((HO4.out.setCell (p:=⟨l,4,none⟩) (.inl rfl) (.int .i64 (co+P))).setCell (p:=⟨l,5,none⟩) (.inl rfl) (.int .i64 (nw+P))).drew,fun k hk=>(HB3.out k hk).2⟩
  exact HW4.out.kept (fun g hg=>by
   have h1:=(HB3.out g hg).1
   exact(Below.heap_setCell (w4.setCell ⟨l,4,none⟩ (.int .i64 (co+P))) ⟨l,5,none⟩ (.int .i64 (nw+P)) g h1).trans (Below.heap_setCell w4 ⟨l,4,none⟩ (.int .i64 (co+P)) g h1))
 obtain⟨hco,hnw,hgv⟩:=HCO.out
 have hz1:co+(P:Int)=P:=by omega
 have hz2:nw+(P:Int)=P:=by omega
 obtain⟨q1,q2,q3⟩:=HTO.out
 have hto:=LogTo.comp q1 q2 q3 (HXY.out.added hadd (by simp))
 rw[hz1,hz2] at hto
 exact⟨rfl,by rw[hz1,hz2];exact hto⟩
end
end Go.Proofs.YtkpoodjhjfmfjaaGreatDoor
namespace Go.Proofs.YtkpoodjhjfmfjaaGreatDoor
open Go.RowKit Go.Lib
def grow (F:Nat->Prop) (n:Nat):Nat->Prop:=fun k=>F k\/n<=k
theorem Only.grow {F:Nat->Prop} {a b c:World} (h:Only F a b) (k:Only (grow F a.heap.size) b c):Only F a c:=h.then k (fun i hi hl=>hi.elim id (fun e=>by omega))
theorem grow_mono {F F':Nat->Prop} {n m:Nat} (hF:∀ k,F k->F' k) (hn:m<=n):∀ k,grow F n k->grow F' m k:=fun k hk=>hk.elim (fun h=>.inl (hF k h)) (fun h=>.inr (by omega))
theorem grow_two {F:Nat->Prop} {n m:Nat} (hn:n<=m):∀ k,grow (grow F n) m k->grow F n k:=fun k hk=>hk.elim id (fun h=>.inr (by omega))
structure Lg where
 G:List (List Chg)
 O:List Chg
 ch:Int
def Lg.add (s:Lg) (c:Chg):Lg:=if mergeB s.O c=true then { s with O:=logAdd s.O c } else if 1048576<costL s.O+priceC c then ⟨[],[c],-1⟩ else { s with O:=s.O++[c] }
def Lg.close (s:Lg):Lg:=⟨(dropG (logShut s.G s.O) s.ch).1,[],(dropG (logShut s.G s.O) s.ch).2⟩
structure LgOk (s:Lg):Prop where
 og:∀ g ∈ s.G,∀ c ∈ g,ChgOk c
 oo:∀ c ∈ s.O,ChgOk c
 co:costL s.O<=1048576
 cg:costG s.G<=1048576
 ch:s.ch<=s.G.length
 c1:-1<=s.ch
theorem logShut_ok {G:List (List Chg)} {O:List Chg} (h:∀ g ∈ G,∀ c ∈ g,ChgOk c) (h2:∀ c ∈ O,ChgOk c):∀ g ∈ logShut G O,∀ c ∈ g,ChgOk c:=by
 unfold logShut
 split
 ·exact h
 ·intro g hg
  rcases List.mem_append.1 hg with hg|hg
  ·exact h g hg
  ·obtain rfl:g=O:=by simpa using hg
   exact h2
theorem costG_shut (G:List (List Chg)) (O:List Chg):costG (logShut G O)=costG G+costL O:=by
 unfold logShut
 split
 ·rename_i h;subst h;simp[costL]
 ·rw[costG_append];simp[costG]
theorem dropG_ok:∀(G:List (List Chg)) (ch:Int),(∀ g ∈ G,costL g<=1048576)->costG (dropG G ch).1<=1048576
 | [],ch,h=>by simp[dropG,costG]
 | [g],ch,h=>by have:=h g (by simp);simp[dropG,costG];exact this
 | g :: g2 :: r,ch,h=>by
   rw[dropG]
   split
   ·exact dropG_ok (g2 :: r) _ (fun q hq=>h q (by simp at hq ⊢;exact .inr hq))
   ·simp only;omega
theorem dropG_mem:∀(G:List (List Chg)) (ch:Int),∀ g ∈ (dropG G ch).1,g ∈ G
 | [],ch=>by simp[dropG]
 | [g],ch=>by simp[dropG]
 | g :: g2 :: r,ch=>by
   rw[dropG]
   split
   ·intro q hq
    have:=dropG_mem (g2 :: r) _ q hq
    simp at this ⊢;exact .inr this
   ·exact fun q hq=>hq
theorem dropG_ch:∀(G:List (List Chg)) (ch:Int),ch<=G.length->-1<=ch->(dropG G ch).2<=(dropG G ch).1.length/\-1<=(dropG G ch).2
 | [],ch,h,h2=>by simp[dropG] at h ⊢;omega
 | [g],ch,h,h2=>by simp[dropG] at h ⊢;omega
 | g :: g2 :: r,ch,h,h2=>by
   rw[dropG]
   split
   ·refine dropG_ch (g2 :: r) _ ?_ ?_
    ·simp at h ⊢;split<;>omega
    ·split<;>omega
   ·exact⟨h,h2⟩
theorem costL_mem {G:List (List Chg)} {g:List Chg} (h:g ∈ G):costL g<=costG G:=by
 obtain⟨a,b,rfl⟩:=List.append_of_mem h
 rw[costG_append,costG_cons];omega
theorem priceC_le {c:Chg} (h:ChgOk c):priceC c<=1000001:=by
 unfold priceC
 split
 ·rename_i hk
  have:=chrs_len c.tx
  have:=(h.tx hk).2
  omega
 ·omega
theorem costL_add (O:List Chg) (c:Chg):costL (logAdd O c)=costL O+addCost O c:=by
 unfold logAdd addCost
 by_cases hm:mergeB O c=true
 ·rw[if_pos hm,if_pos hm]
  unfold mergeB at hm
  cases hg:O.getLast? with
  | none=>rw[hg] at hm;cases hm
  | some x=>
    rw[hg] at hm
    simp at hm
    have hne:O≠[]:=fun e=>by rw[e] at hg;cases hg
    have e1:=List.dropLast_concat_getLast hne
    have e2:O.getLast hne=x:=by rw[List.getLast?_eq_some_getLast hne] at hg;exact Option.some.inj hg
    have e3:O.getLastD chg0=x:=by rw[List.getLastD_eq_getLast?,hg];rfl
    rw[e3]
    conv=>rhs;rw[<-e1,e2]
    rw[costL_append,costL_append]
    simp[costL,priceC,hm.2.1]
 ·rw[if_neg hm,if_neg hm,costL_append]
  simp[costL]
theorem LgOk.add {s:Lg} (h:LgOk s) {c:Chg} (hc:ChgOk c):LgOk (s.add c):=by
 unfold Lg.add
 split
 ·rename_i hm
  refine⟨h.og,fun x hx=>?_,?_,h.cg,h.ch,h.c1⟩
  ·simp only at hx
   unfold logAdd at hx
   rw[if_pos hm] at hx
   rcases List.mem_append.1 hx with hx|hx
   ·exact h.oo x ((List.dropLast_sublist _).subset hx)
   ·have hm':=hm
    unfold mergeB at hm
    cases hg:s.O.getLast? with
    | none=>rw[hg] at hm;cases hm
    | some y=>
      rw[hg] at hm
      simp at hm
      have e3:s.O.getLastD chg0=y:=by rw[List.getLastD_eq_getLast?,hg];rfl
      have hy:=h.oo y (List.mem_of_getLast? hg)
      obtain rfl:x={ y with b:=c.b }:=by rw[e3] at hx;simpa using hx
      obtain⟨m1,m2,m3⟩:=hm
      have ha:=hy.a (by rw[m2];decide)
      have hb:=hc.b (.inl m1)
      have hyb:=hy.b (.inl m2)
      refine⟨hy.k,fun _=>ha,fun _=>⟨by simp only;omega,hb.2⟩,fun e=>by simp[m2] at e,fun e=>by simp[m2] at e⟩
  ·simp only
   rw[costL_add]
   unfold addCost
   rw[if_pos hm]
   exact h.co
 ·rename_i hm
  split
  ·have:=priceC_le hc
   exact⟨by simp,by simpa using hc,by simp[costL];omega,by simp[costG],by simp,by simp⟩
  ·refine⟨h.og,fun x hx=>?_,by simp only;rw[costL_append];simp[costL] at *;omega,h.cg,h.ch,h.c1⟩
   rcases List.mem_append.1 hx with hx|hx
   ·exact h.oo x hx
   ·obtain rfl:x=c:=by simpa using hx
    exact hc
theorem LgOk.close {s:Lg} (h:LgOk s):LgOk s.close:=by
 have h1:=logShut_ok h.og h.oo
 have h2:∀ g ∈ logShut s.G s.O,costL g<=1048576:=by
  intro g hg
  unfold logShut at hg
  split at hg
  ·have:=costL_mem hg;have:=h.cg;omega
  ·rcases List.mem_append.1 hg with hg|hg
   ·have:=costL_mem hg;have:=h.cg;omega
   ·obtain rfl:g=s.O:=by simpa using hg
    exact h.co
 have h3:s.ch<=(logShut s.G s.O).length:=by
  have:=h.ch
  unfold logShut;split<;>simp<;>omega
 have h4:=dropG_ch (logShut s.G s.O) s.ch h3 h.c1
 exact⟨fun g hg=>h1 g (dropG_mem _ _ g hg),by simp[Lg.close],by simp[Lg.close,costL],dropG_ok _ _ h2,h4.1,h4.2⟩
theorem LgOk.clear:LgOk ⟨[],[],-1⟩:=⟨by simp,by simp,by simp[costL],by simp[costG],by simp,by simp⟩
def LogT (w:World) (l:Nat) (F:Nat->Prop) (s:Lg):Prop:=LgOk s/\∃ gv ov vs,LogX w l gv ov vs s.G s.O s.ch (costG s.G+costL s.O:Nat) (costL s.O)/\∀ k,logFoot l gv ov vs k->F k
def LogP (w:World) (l:Nat) (F:Nat->Prop) (s:Lg) (w':World):Prop:=LogT w' l (grow F w.heap.size) s/\Only F w w'
section
variable {w w' : World} {N l : Nat} {F F' : Nat → Prop} {s : Lg} {gv ov : Value} {vs : List Sl3}
theorem LogT.up (h:LogT w l F s) (hb:Below w.heap.size w w'):LogT w' l F s:=by
 obtain⟨h0,gv,ov,vs,hx,hf⟩:=h;exact⟨h0,gv,ov,vs,hx.up hb,hf⟩
theorem LogT.mono (h:LogT w l F s) (hF:∀ k,F k->F' k):LogT w l F' s:=by
 obtain⟨h0,gv,ov,vs,hx,hf⟩:=h;exact⟨h0,gv,ov,vs,hx,fun k hk=>hF k (hf k hk)⟩
theorem LogT.only {S:Nat->Prop} (h:LogT w l F s) (ho:Only S w w') (hd:∀ k,F k->k<w.heap.size->¬ S k):LogT w' l F s:=by
 obtain⟨h0,gv,ov,vs,hx,hf⟩:=h;exact⟨h0,gv,ov,vs,hx.only ho (fun k hk=>hd k (hf k hk) (hx.foot_lt hk)),hf⟩
theorem LogT.lt (h:LogT w l F s):l<w.heap.size/\F l:=by
 obtain⟨h0,gv,ov,vs,hx,hf⟩:=h;exact⟨hx.blk.lt,hf l (.inl rfl)⟩
theorem LogT.bound (h:LogT w l F s):LogT w l (fun k=>F k/\k<w.heap.size) s:=by
 obtain⟨h0,gv,ov,vs,hx,hf⟩:=h;exact⟨h0,gv,ov,vs,hx,fun k hk=>⟨hf k hk,hx.foot_lt hk⟩⟩
theorem LogTo.t (h:LogTo w l gv ov vs s.G s.O s.ch (costG s.G+costL s.O:Nat) (costL s.O) w') (h0:LgOk s) (hf:∀ k,logFoot l gv ov vs k->F k):LogP w l F s w':=by
 obtain⟨ho,gv',ov',vs',hx,hf'⟩:=h
 exact⟨⟨h0,gv',ov',vs',hx,fun k hk=>(hf' k hk).imp (hf k) id⟩,ho.mono hf⟩
theorem LogT.len (h:LogT w l F s):s.O.length<=1048576/\s.G.length<=1048576:=by
 obtain⟨h0,gv,ov,vs,hx,hf⟩:=h
 refine⟨Nat.le_trans (costL_len _) h0.co,Nat.le_trans ?_ h0.cg⟩
 have hr:∀ g ∈ s.G,0<g.length:=fun g hg=>by
  obtain⟨i,hi⟩:=List.getElem?_of_mem hg
  have hl:=(List.getElem?_eq_some_iff.1 hi).1
  rw[<-hx.len] at hl
  exact(hx.rows i _ g (List.getElem?_eq_getElem hl) hi).2
 have key:∀(G:List (List Chg)),(∀ g ∈ G,0<g.length)->G.length<=costG G:=by
  intro G
  induction G with
  | nil=>intro;simp
  | cons g G ih=>
    intro h
    have h1:=ih (fun q hq=>h q (by simp[hq]))
    have h2:=h g (by simp)
    have h3:=costL_len g
    rw[costG_cons,List.length_cons];omega
 exact key _ hr
theorem tclear (h:LogT w l F s):Calls Tryz.prog 92 #[pAt l] w fun r w'=>r=.returned (.int .i64 0)/\LogP w l F ⟨[],[],-1⟩ w':=by
 obtain⟨h0,gv,ov,vs,hx,hf⟩:=h
 exact(lclear hx).mono fun r w' ⟨hr,ht⟩=>⟨hr,LogTo.t (s:=⟨[],[],-1⟩) (by simpa [costG,costL] using ht) LgOk.clear hf⟩
theorem tadd {c:Chg} (h:LogT w l F s) (hok:ChgOk c) (hT:Tabs N w) (hR:Rules N w):Calls Tryz.prog 219 #[pAt l,chgV c] w fun r w'=>r=.returned (.int .i64 0)/\LogP w l F (s.add c) w':=by
 have hlen:=h.len
 obtain⟨h0,gv,ov,vs,hx,hf⟩:=h
 have hp:=priceC_le hok
 have h1:=h0.co
 have h2:=h0.cg
 have hok':=h0.add hok
 by_cases hov:mergeB s.O c=false/\1048576<costL s.O+priceC c
 ·have e:s.add c=⟨[],[c],-1⟩:=by unfold Lg.add;rw[if_neg (by rw[hov.1];simp),if_pos hov.2]
  rw[e] at hok' ⊢
  have hz:0<s.O.length:=by
   rcases Nat.eq_zero_or_pos s.O.length with hz|hz
   ·rw[List.eq_nil_of_length_eq_zero hz] at hov
    simp[costL] at hov;omega
   ·exact hz
  obtain⟨K,hK⟩:∃ K,s.O.length=K+1:=⟨s.O.length - 1,by omega⟩
  have hlt:K<s.O.length:=by omega
  have hxk:s.O[K]?=some s.O[K]:=List.getElem?_eq_getElem hlt
  have hg:s.O.getLast?=some s.O[K]:=by rw[List.getLast?_eq_getElem?,show s.O.length - 1=K by omega];exact hxk
  have hm:mergeB s.O c=decide (c.k=1/\s.O[K].k=1/\s.O[K].b=c.a):=by unfold mergeB;rw[hg]
  have key:Calls Tryz.prog 219 #[.pointer (some ⟨l,0,none⟩),chgV c] w fun e w'=>e=.returned (.int .i64 0)/\LogTo w l gv ov vs [] [c] (-1) (priceC c) (priceC c) w':=by
   have hnm:=hov.1
   rw[hm] at hnm
   simp only[decide_eq_false_iff_not] at hnm
   by_cases hc1:c.k=1
   ·by_cases hc2:s.O[K].k=1
    ·exact lover_n3 hx hxk hK (by omega) ⟨hc1,hc2,fun e=>hnm ⟨hc1,hc2,e⟩⟩ hok hT hR (by omega) (by omega) (by omega)
    ·exact lover_n2 hx hxk hK (by omega) ⟨hc1,hc2⟩ hok hT hR (by omega) (by omega) (by omega)
   ·exact lover_n1 hx hxk hK (by omega) hc1 hok hT hR (by omega) (by omega) (by omega)
  exact key.mono fun r w' ⟨hr,ht⟩=>⟨hr,LogTo.t (s:=⟨[],[c],-1⟩) (by simpa [costG,costL] using ht) hok' hf⟩
 ·have e:s.add c={ s with O:=logAdd s.O c }:=by
   unfold Lg.add
   split
   ·rfl
   ·rename_i hm
    rw[if_neg (fun q=>hov ⟨by simpa using hm,q⟩)]
    unfold logAdd
    rw[if_neg hm]
  rw[e] at hok' ⊢
  have hac:=costL_add s.O c
  have hco:=hok'.co
  simp only at hco
  rw[hac] at hco
  by_cases hm:mergeB s.O c=true
  ·have hz:addCost s.O c=0:=by unfold addCost;rw[if_pos hm]
   have hm':=hm
   unfold mergeB at hm'
   cases hg:s.O.getLast? with
   | none=>rw[hg] at hm';cases hm'
   | some x=>
     rw[hg] at hm'
     simp only[decide_eq_true_eq] at hm'
     have hne:s.O≠[]:=fun e=>by rw[e] at hg;cases hg
     have hpos:=List.length_pos_iff.2 hne
     obtain⟨K,hK⟩:∃ K,s.O.length=K+1:=⟨s.O.length - 1,by omega⟩
     have hxk:s.O[K]?=some x:=by rw[List.getLast?_eq_getElem?,show s.O.length - 1=K by omega] at hg;exact hg
     have eO:logAdd s.O c=s.O.set K { x with b:=c.b }:=by
      unfold logAdd
      rw[if_pos hm]
      have h1:s.O.getLastD chg0=x:=by rw[List.getLastD_eq_getLast?,hg];rfl
      rw[h1]
      exact(set_last s.O _ hK).symm
     refine(gadd_merge hx.op hxk hK (by omega) (fun k hk=>(hx.s1 k hk).1) hm' hok hT hR hx.blk).mono fun r w' ⟨hr,ht⟩=>⟨hr,LogTo.t (s:={ s with O:=logAdd s.O c }) ?_ hok' hf⟩
     have h5:=hx.added ht (by intro e;have:=congrArg List.length e;rw[List.length_set,hK] at this;cases this)
     have e1:((costG s.G+costL (logAdd s.O c):Nat):Int)=(costG s.G+costL s.O:Nat):=by rw[hac,hz];omega
     have e2:((costL (logAdd s.O c):Nat):Int)=(costL s.O:Int):=by rw[hac,hz];omega
     rw[e1,e2,eO];exact h5
  ·have hz:addCost s.O c=priceC c:=by unfold addCost;rw[if_neg hm]
   refine(ladd hx (by omega) hok hT hR (by omega) (by omega) (by omega) (by omega)).mono fun r w' ⟨hr,ht⟩=>⟨hr,LogTo.t (s:={ s with O:=logAdd s.O c }) ?_ hok' hf⟩
   have e1:((costG s.G+costL (logAdd s.O c):Nat):Int)=(costG s.G+costL s.O:Nat)+addCost s.O c:=by rw[hac];omega
   have e2:((costL (logAdd s.O c):Nat):Int)=(costL s.O:Int)+addCost s.O c:=by rw[hac];omega
   rw[e1,e2];exact ht
theorem tclose (h:LogT w l F s) (hT:Tabs N w) (hN:∀ k,F k->N<=k) (hNs:N<=w.heap.size):Calls Tryz.prog 144 #[pAt l] w fun r w'=>r=.returned (.tuple #[])/\LogP w l F s.close w':=by
 have hlen:=h.len
 obtain⟨h0,gv,ov,vs,hx,hf⟩:=h
 have hok':=h0.close
 have h1:=h0.co
 have h2:=h0.cg
 have h3:=logShut_ok h0.og h0.oo
 have hcs:=costG_shut s.G s.O
 by_cases hO:s.O=[]
 ·have e:s.close=⟨(dropG s.G s.ch).1,[],(dropG s.G s.ch).2⟩:=by unfold Lg.close logShut;rw[if_pos hO]
  rw[e] at hok' ⊢
  have hx':LogX w l gv ov vs s.G [] s.ch (costG s.G) 0:=by rw[hO] at hx;simpa [costL] using hx
  refine(lclose_none hT hx' h0.og (by omega) (by omega) h0.ch (fun k hk=>hN k (hf k hk)) hNs).mono fun r w' ⟨hr,ht⟩=>⟨hr,LogTo.t (s:=⟨(dropG s.G s.ch).1,[],(dropG s.G s.ch).2⟩) (by simpa [costL] using ht) hok' hf⟩
 ·have e:s.close=⟨(dropG (s.G++[s.O]) s.ch).1,[],(dropG (s.G++[s.O]) s.ch).2⟩:=by unfold Lg.close logShut;rw[if_neg hO]
  rw[e] at hok' ⊢
  have e2:logShut s.G s.O=s.G++[s.O]:=by unfold logShut;rw[if_neg hO]
  rw[e2] at h3 hcs
  obtain⟨A,cap,rfl,_⟩:=hx.op.shape eltCg
  have hvl:=hx.len
  refine(lclose_some hT (by rw[hcs];exact hx) (List.length_pos_iff.2 hO) (by omega) h3 (by omega) h0.ch (fun k hk=>hN k (hf k hk)) hNs).mono fun r w' ⟨hr,ht⟩=>⟨hr,LogTo.t (s:=⟨(dropG (s.G++[s.O]) s.ch).1,[],(dropG (s.G++[s.O]) s.ch).2⟩) (by simpa [costL] using ht) hok' hf⟩
theorem tnone (h:LogT w l F s):Calls Tryz.prog 143 #[pAt l] w fun e w'=>e=.returned (.bool false)/\w=w':=by
 obtain⟨h0,gv,ov,vs,hx,hf⟩:=h
 exact gnoneL hx.blk
set_option maxHeartbeats 1000000 in
theorem tbound (h:LogT w l F s) (hT:Tabs N w) (hN:∀ k,F k->N<=k) (hNs:N<=w.heap.size):Calls Tryz.prog 75 #[pAt l] w fun r w'=>r=.returned (.int .i64 0)/\LogP w l F s.close w':=by
 have HN:=qH (tnone h)
 have HC:=qH (tclose h hT hN hNs)
 clear h hT hN
 go_enter Tryz.func75,Tryz.ntmps75
 go_wp2_with fail
 refine HN.out.mono ?_
 rintro e w' ⟨rfl,rfl⟩
 go_wp2_with fail
 refine HC.out.mono ?_
 rintro e w' ⟨rfl,hp⟩
 have HPP:=qH hp
 clear hp
 go_wp2_with fail
 go_ret
 exact⟨rfl,HPP.out⟩
end
end Go.Proofs.YtkpoodjhjfmfjaaGreatDoor
