/- A part. -/
import Derived.Test.YtkpoodjhjfmfjaaGreatDoorZ04
import Derived.Lib.ValidLaws
import Derived.Laws.Cover4
import Derived.Lib.MapLaws
import Derived.Lib.TrimUEq
import Derived.Test.YtkpoodjhjfmfjaaGreatDoorProg
import Derived.Test.YtkpoodjhjfmfjaaGreatDoorZ00
import Derived.IntWalk
import Derived.Lib.SliceRun
import Derived.BigRegion
import Derived.RegionTactic
import Derived.ChangeAlike
import Derived.Test.YtkpoodjhjfmfjaaGreatDoorZ01
import Derived.Laws.IdiomCopy
import Derived.Laws.MakeOwn
import Derived.Test.YtkpoodjhjfmfjaaGreatDoorLayK
import Derived.Lib.IndexBytes
import Derived.Test.YtkpoodjhjfmfjaaGreatDoorLayG
import Derived.Lib.OthersKept
set_option linter.unusedVariables false
set_option linter.unusedSimpArgs false
namespace Go.Proofs.YtkpoodjhjfmfjaaGreatDoor.Ovs
open Go.RowKit
section
variable {w w' W : World} {x : OverE} {L L' M : List OverE} {b : Nat} {pr ev nx : Int} {v v' : Value} {A : Option Addr}
end
end Go.Proofs.YtkpoodjhjfmfjaaGreatDoor.Ovs
namespace Go.Proofs.YtkpoodjhjfmfjaaGreatDoor.Ovs
open Go.RowKit
section
variable {w w' W : World} {x : OverE} {L L' M : List OverE} {b : Nat} {pr ev nx : Int} {v v' : Value} {A : Option Addr}
end
end Go.Proofs.YtkpoodjhjfmfjaaGreatDoor.Ovs
namespace Go.Proofs.YtkpoodjhjfmfjaaGreatDoor.Ovs
open Go.RowKit
section
variable {w w' W : World} {D : List OverD} {x : OverE} {L L' M : List OverE} {b : Nat} {pr ev nx : Int} {v v' : Value} {A : Option Addr}
def GoodP (ps:List PropE):Prop:=SortedP ps/\ps.length<=64/\∀ p ∈ ps,0<=p.name
structure GoodX (nx:Int) (x:OverD):Prop where
 id0:0<=x.id
 id1:x.id<nx
 f0:1<=x.f
 ft:x.f<=x.t
 t1:x.t<=1099511627776
 ps:GoodP x.ps
structure WfD (D:List OverD) (nx:Int):Prop where
 asc:(D.map OverD.id).Pairwise (·<·)
 good:∀ x ∈ D,GoodX nx x
 len:D.length<=1024
 nx0:0<=nx
theorem WfD.nil:WfD [] 0:=⟨List.Pairwise.nil,by simp,by simp,by omega⟩
theorem WfD.nodup (h:WfD D nx):(D.map OverD.id).Nodup:=h.asc.imp fun h e=>by omega
theorem placeI_iff (a:Int):placeI a=true ↔ 1<=a/\a<=1099511627776:=by unfold placeI;simp
theorem rightI_iff (f t:Int):rightI f t=true ↔ 1<=f/\f<=t/\t<=1099511627776:=by
 unfold rightI;simp only[Bool.and_eq_true,placeI_iff,decide_eq_true_eq];omega
theorem WfD.sub {D':List OverD} (h:WfD D nx) (hs:D'.Sublist D):WfD D' nx:=
 ⟨h.asc.sublist (hs.map _),fun x hx=>h.good x (hs.subset hx),Nat.le_trans hs.length_le h.len,h.nx0⟩
theorem WfD.map {u:OverD->OverD} (h:WfD D nx) (hu:∀ x ∈ D,(u x).id=x.id/\GoodX nx (u x)):WfD (D.map u) nx:=by
 refine⟨?_,fun y hy=>?_,by simpa using h.len,h.nx0⟩
 ·have:(D.map u).map OverD.id=D.map OverD.id:=by rw[List.map_map];exact List.map_congr_left fun x hx=>(hu x hx).1
  rw[this];exact h.asc
 ·obtain⟨x,hx,rfl⟩:=List.mem_map.1 hy
  exact(hu x hx).2
theorem wf_ins (h:WfD D nx) (at_ n:Int):WfD (insertedD D at_ n) nx:=by
 unfold insertedD
 split
 ·rename_i he
  have hn:0<=n/\insOk D at_ n=true:=by
   unfold insE at he
   split at he
   ·split at he
    ·omega
    ·split at he
     ·rename_i h1 h2;exact⟨by omega,h2⟩
     ·omega
   ·omega
  refine h.map fun x hx=>⟨rfl,?_⟩
  have g:=h.good x hx
  have hp:=(placeI_iff _).1 (List.all_eq_true.1 hn.2 x hx)
  have g1:=g.f0
  have g2:=g.ft
  refine⟨g.id0,g.id1,?_,?_,hp.2,g.ps⟩
  ·show 1<=insF at_ n x.f x.t x.fr x.re
   unfold insF;split<;>(try split)<;>omega
  ·show insF at_ n x.f x.t x.fr x.re<=insT at_ n x.f x.t x.fr x.re
   unfold insF insT
   cases x.fr<;>cases x.re<;>simp<;>(repeat' split)<;>omega
 ·exact h
theorem back_mono {a c f t:Int} (hf:f<=t) (h:a<=c):backI a f t<=backI c f t:=by
 unfold backI;split<;>(try split)<;>(try split)<;>(try split)<;>omega
theorem back_ge {a f t:Int} (h1:1<=a) (h2:1<=f) (h3:f<=t):1<=backI a f t:=by unfold backI;split<;>(try split)<;>omega
theorem back_le {a f t:Int} (h3:f<=t):backI a f t<=a:=by unfold backI;split<;>(try split)<;>omega
theorem wf_del (h:WfD D nx) (ev f t:Int):WfD (delD ev f t D) nx:=by
 unfold delD
 cases hr:rightI f t with
 | false=>simpa using h
 | true=>
   obtain⟨r1,r2,r3⟩:=(rightI_iff f t).1 hr
   unfold leftD
   refine WfD.map (h.sub List.filter_sublist) fun x hx=>?_
   have g:=h.good x (List.mem_filter.1 hx).1
   have g1:=g.f0
   have g2:=g.ft
   have g3:=g.t1
   exact⟨rfl,g.id0,g.id1,back_ge g1 r1 r2,back_mono r2 g2,by have:=back_le (a:=x.t) r2;show backI x.t f t<=_;omega,g.ps⟩
end
end Go.Proofs.YtkpoodjhjfmfjaaGreatDoor.Ovs
namespace Go.Proofs.YtkpoodjhjfmfjaaGreatDoor.Ovs
open Go.RowKit
section
variable {w w' W : World} {D : List OverD} {x : OverE} {L L' M : List OverE} {b : Nat} {pr ev nx : Int} {v v' : Value} {A A' : Option Addr} {S T : Nat → Prop}
def OSt (w:World) (b:Nat) (pr ev:Int) (D:List OverD) (nx:Int) (S:Nat->Prop):Prop:=∃ v L,OvsAt w b pr ev v L nx/\L.map OverE.dat=D/\∀ k ∈ footS b v L,S k
theorem OSt.mono (h:OSt w b pr ev D nx S) (hs:∀ k,S k->T k):OSt w b pr ev D nx T:=by
 obtain⟨v,L,h1,h2,h3⟩:=h;exact⟨v,L,h1,h2,fun k hk=>hs k (h3 k hk)⟩
theorem OSt.blt (h:OSt w b pr ev D nx S):b<w.heap.size:=by obtain⟨v,L,h1,_,_⟩:=h;exact h1.blt
def SPost (w:World) (b:Nat) (pr ev:Int) (S:Nat->Prop) (ret:Value) (D:List OverD) (nx:Int) (e:Ending) (w':World):Prop:=
 e=.returned ret/\∃ S',OSt w' b pr ev D nx S'/\Only S w w'/\∀ k,S' k->S k\/w.heap.size<=k
theorem OPost.st {ret:Value} {e:Ending} (h:OPost w b pr ev v L ret D nx e w') (hs:∀ k ∈ footS b v L,S k):SPost w b pr ev S ret D nx e w':=by
 obtain⟨v',L',he,h1,h2,h3,h4⟩:=h
 exact⟨he,fun k=>k ∈ footS b v' L',⟨v',L',h1,h2,fun k hk=>hk⟩,h3.mono hs,fun k hk=>(h4 k hk).imp (hs k) (fun h=>h)⟩
theorem dat_good (hD:L.map OverE.dat=D) (h:WfD D nx):(∀ x ∈ L,SortedP x.ps/\x.ps.length<=64)/\(∀ x ∈ L,1<=x.f/\x.f<=1099511627776/\1<=x.t/\x.t<=1099511627776)/\(L.map OverE.id).Nodup/\L.length<=1024:=by
 have hg:∀ x ∈ L,GoodX nx x.dat:=fun x hx=>h.good _ (by rw[<-hD];exact List.mem_map.2 ⟨x,hx,rfl⟩)
 refine⟨fun x hx=>⟨(hg x hx).ps.1,(hg x hx).ps.2.1⟩,fun x hx=>?_,?_,?_⟩
 ·have g:=hg x hx
  have a1:1<=x.f:=g.f0
  have a2:x.f<=x.t:=g.ft
  have a3:x.t<=1099511627776:=g.t1
  omega
 ·have:=h.nodup
  rw[<-hD,List.map_map] at this
  exact this
 ·have:=h.len
  rw[<-hD,List.length_map] at this
  exact this
theorem s_ins (h:OSt w b pr ev D nx S) (hw:WfD D nx) (at_ n:Int) :
  Calls Tryz.prog 172 #[.pointer (some ⟨b,0,none⟩),.int .i64 at_,.int .i64 n] w (SPost w b pr ev S (.int .i64 (insE D at_ n)) (insertedD D at_ n) nx):=by
 obtain⟨v,L,h1,rfl,h3⟩:=h
 obtain⟨g1,g2,g3,g4⟩:=dat_good rfl hw
 exact(oinserted h1 at_ n g2 (by omega)).mono fun e w' hp=>hp.st h3
def SPostS (w:World) (b:Nat) (pr ev:Int) (S:Nat->Prop) (ids:List Int) (er:Int) (D:List OverD) (nx:Int) (e:Ending) (w':World):Prop:=
 ∃ gv,e=.returned (.tuple #[gv,.int .i64 er])/\ROwn encI 3 1 w.heap.size w' gv ids/\∃ S',OSt w' b pr ev D nx S'/\Only S w w'/\∀ k,S' k->S k\/w.heap.size<=k/\gv.ownBlock≠some k
theorem s_del (h:OSt w b pr ev D nx S) (hw:WfD D nx) (f t:Int) :
  Calls Tryz.prog 156 #[.pointer (some ⟨b,0,none⟩),.int .i64 f,.int .i64 t] w (SPostS w b pr ev S (delI ev f t D) (delE f t) (delD ev f t D) nx):=by
 obtain⟨v,L,h1,rfl,h3⟩:=h
 obtain⟨g1,g2,g3,g4⟩:=dat_good rfl hw
 refine(odel h1 f t g2 g1 g3 (by omega)).mono ?_
 rintro e w' ⟨gv,v',L',he,ho,h4,h5,h6,h7⟩
 exact⟨gv,he,ho,fun k=>k ∈ footS b v' L',⟨v',L',h4,h5,fun k hk=>hk⟩,h6.mono h3,fun k hk=>(h7 k hk).imp (h3 k) (fun h=>h)⟩
theorem s_new (pr ev:Int) (w:World):Calls Tryz.prog 138 #[.int .i64 pr,.int .i64 ev] w fun e w'=>∃ b,e=.returned (.pointer (some ⟨b,0,none⟩))/\OSt w' b pr ev [] 0 (fun k=>w.heap.size<=k)/\Below w.heap.size w w':=
 (onew_any pr ev w).mono fun e w' ⟨b,he,hb,h1,h2⟩=>⟨b,he,⟨_,[],h1,rfl,fun k hk=>by
  rcases foot_cases hk with rfl|h3|⟨x,hx,_⟩
  ·exact hb
  ·cases h3
  ·simp at hx⟩,h2⟩
set_option maxHeartbeats 400000 in
theorem kint_any (n:Int) (w:World):Calls Tryz.prog 15 #[.int .i64 n] w fun e w'=>e=.returned (.agg #[.int .i64 0,.int .i64 n])/\Below w.heap.size w w':=by
 go_enter Tryz.func15,Tryz.ntmps15
 go_wp2
 refine bodyPost_ret (v:=.agg #[.int .i64 0,.int .i64 n]) (by simp[results,Tryz.f15,go_sem]) rfl ⟨rfl,?_⟩
 exact below1 _ _
set_option maxHeartbeats 400000 in
theorem ksym_any (n:Int) (w:World):Calls Tryz.prog 88 #[.int .i64 n] w fun e w'=>e=.returned (.agg #[.int .i64 1,.int .i64 n])/\Below w.heap.size w w':=by
 go_enter Tryz.func88,Tryz.ntmps88
 go_wp2
 refine bodyPost_ret (v:=.agg #[.int .i64 1,.int .i64 n]) (by simp[results,Tryz.f88,go_sem]) rfl ⟨rfl,?_⟩
 exact below1 _ _
set_option maxHeartbeats 400000 in
theorem kt_any (w:World):Calls Tryz.prog 25 #[] w fun e w'=>e=.returned (.agg #[.int .i64 1,.int .i64 1])/\Below w.heap.size w w':=by
 go_enter Tryz.func25,Tryz.ntmps25
 go_wp2_with fail
 refine(ksym_any 1 _).mono ?_
 rintro e w1 ⟨rfl,hb⟩
 have hz:=hb.size
 have k0:=hb.cell (p:=⟨w.heap.size,0,none⟩) (by simp)
 have k1:=hb.cell (p:=⟨w.heap.size,1,none⟩) (by simp)
 have kf:=fun o=>hb.frozen (p:=⟨w.heap.size,o,none⟩) (by simp)
 simp at k0 k1 kf
 have HB:=qH (up2 (below1 _ _) hb)
 clear hb hz
 go_wp2_with fail
 refine bodyPost_ret (v:=.agg #[.int .i64 1,.int .i64 1]) (by simp[results,Tryz.f25,go_sem,k0,k1]) rfl ⟨rfl,?_⟩
 exact((HB.out.setCell (p:=⟨w.heap.size,0,none⟩) (Nat.le_refl _) _).setCell (p:=⟨w.heap.size,1,none⟩) (Nat.le_refl _) _)
end
end Go.Proofs.YtkpoodjhjfmfjaaGreatDoor.Ovs
namespace Go.Proofs.YtkpoodjhjfmfjaaGreatDoor.Ovs
open Go.RowKit
section
variable {w w' W : World} {x y : OverE} {D : List OverD} {L L' M : List OverE} {b : Nat} {pr ev nx : Int} {v v' : Value} {A : Option Addr} {S : Nat → Prop}
end
end Go.Proofs.YtkpoodjhjfmfjaaGreatDoor.Ovs
namespace Go.Proofs.YtkpoodjhjfmfjaaGreatDoor
def tlN (n i b:Nat):Prop:=i<n/\128<=b/\b<192
instance tlN.dec (n i b:Nat):Decidable (tlN n i b):=by unfold tlN;infer_instance
def isN (c:Nat):Prop:=c<=1114111/\(c<55296\/57343<c)
instance isN.dec (c:Nat):Decidable (isN c):=by unfold isN;infer_instance
def c2N (b0 b1:Nat):Nat:=(b0 - 192)*64+b1 - 128
def c3N (b0 b1 b2:Nat):Nat:=((b0 - 224)*64+b1 - 128)*64+b2 - 128
def c4N (b0 b1 b2 b3:Nat):Nat:=(((b0 - 240)*64+b1 - 128)*64+b2 - 128)*64+b3 - 128
def ptN (n b0 b1 b2 b3:Nat):Nat × Nat:=
 if b0<128 then (b0,1)
 else if (194<=b0/\b0<224)/\tlN n 1 b1 then (c2N b0 b1,2)
 else if (224<=b0/\b0<240)/\tlN n 1 b1/\tlN n 2 b2 then (if 2048<=c3N b0 b1 b2/\isN (c3N b0 b1 b2) then (c3N b0 b1 b2,3) else (0,0))
 else if (240<=b0/\b0<245)/\tlN n 1 b1/\tlN n 2 b2/\tlN n 3 b3 then (if 65536<=c4N b0 b1 b2 b3/\isN (c4N b0 b1 b2 b3) then (c4N b0 b1 b2 b3,4) else (0,0))
 else (0,0)
set_option maxHeartbeats 4000000 in
set_option maxRecDepth 100000 in
theorem ptN_decode (n b0 b1 b2 b3:Nat) (h0:b0<256) (h1:b1<256) (h2:b2<256) (h3:b3<256) :
  (ptN n b0 b1 b2 b3=(0,0)/\Lib.decodeN n b0 b1 b2 b3=(65533,1))\/(0<(ptN n b0 b1 b2 b3).2/\ptN n b0 b1 b2 b3=Lib.decodeN n b0 b1 b2 b3/\¬((Lib.decodeN n b0 b1 b2 b3).1=65533/\(Lib.decodeN n b0 b1 b2 b3).2=1)):=by
 unfold ptN Lib.decodeN tlN isN c2N c3N c4N
 by_cases a0:b0<128
 ·rw[if_pos a0,if_pos a0]
  right
  refine⟨by simp,rfl,?_⟩
  simp;omega
 rw[if_neg a0,if_neg a0]
 by_cases a1:b0 / 32=6/\(1<n/\b1 / 64=2)
 ·rw[if_pos a1]
  by_cases a2:b0 % 32*64+b1 % 64 ≥ 128
  ·rw[if_pos a2,if_pos (by omega)]
   right
   exact⟨by simp,by rw[Prod.mk.injEq];omega,by simp⟩
  ·rw[if_neg a2,if_neg (by omega),if_neg (by omega),if_neg (by omega)]
   exact .inl ⟨rfl,rfl⟩
 rw[if_neg a1,if_neg (by omega)]
 by_cases a3:b0 / 16=14/\(1<n/\b1 / 64=2)/\(2<n/\b2 / 64=2)
 ·rw[if_pos a3,if_pos (by omega)]
  have ec:((b0 - 224)*64+b1 - 128)*64+b2 - 128=b0 % 16*4096+b1 % 64*64+b2 % 64:=by omega
  rw[ec]
  split
  ·rename_i h
   rw[if_pos (by omega)]
   exact .inr ⟨by simp,rfl,by simp⟩
  ·rename_i h
   rw[if_neg (by omega)]
   exact .inl ⟨rfl,rfl⟩
 rw[if_neg a3,if_neg (by omega)]
 by_cases a4:b0 / 8=30/\(1<n/\b1 / 64=2)/\(2<n/\b2 / 64=2)/\(3<n/\b3 / 64=2)
 ·rw[if_pos a4]
  by_cases a5:b0<245
  ·rw[if_pos (by omega)]
   have ec:(((b0 - 240)*64+b1 - 128)*64+b2 - 128)*64+b3 - 128=b0 % 8*262144+b1 % 64*4096+b2 % 64*64+b3 % 64:=by omega
   rw[ec]
   split
   ·rename_i h
    rw[if_pos (by omega)]
    exact .inr ⟨by simp,rfl,by simp⟩
   ·rename_i h
    rw[if_neg (by omega)]
    exact .inl ⟨rfl,rfl⟩
  ·rw[if_neg (by omega),if_neg (by omega)]
   exact .inl ⟨rfl,rfl⟩
 ·rw[if_neg a4,if_neg (by omega)]
  exact .inl ⟨rfl,rfl⟩
def bAt (l:List UInt8) (i:Nat):Nat:=(l.getD i 0).toNat
theorem bAt_lt (l:List UInt8) (i:Nat):bAt l i<256:=(l.getD i 0).toNat_lt
def ptL (l:List UInt8):Nat × Nat:=ptN l.length (bAt l 0) (bAt l 1) (bAt l 2) (bAt l 3)
theorem ptL_bound (l:List UInt8) (h:l≠[]):(ptL l).2<=l.length/\(ptL l).2<=4/\(ptL l).1<=1114111:=by
 have hl:0<l.length:=List.length_pos_iff.2 h
 unfold ptL ptN
 generalize bAt l 0=b0
 generalize bAt l 1=b1
 generalize bAt l 2=b2
 generalize bAt l 3=b3
 by_cases a0:b0<128
 ·rw[if_pos a0];exact⟨hl,by omega,by show b0<=_;omega⟩
 rw[if_neg a0]
 by_cases a1:(194<=b0/\b0<224)/\tlN l.length 1 b1
 ·rw[if_pos a1]
  exact⟨a1.2.1,by omega,by show c2N b0 b1<=_;unfold c2N;have:=a1.2.2;omega⟩
 rw[if_neg a1]
 by_cases a2:(224<=b0/\b0<240)/\tlN l.length 1 b1/\tlN l.length 2 b2
 ·rw[if_pos a2]
  by_cases a3:2048<=c3N b0 b1 b2/\isN (c3N b0 b1 b2)
  ·rw[if_pos a3];exact⟨a2.2.2.1,by show 3<=4;omega,a3.2.1⟩
  ·rw[if_neg a3];exact⟨Nat.zero_le _,Nat.zero_le _,Nat.zero_le _⟩
 rw[if_neg a2]
 by_cases a4:(240<=b0/\b0<245)/\tlN l.length 1 b1/\tlN l.length 2 b2/\tlN l.length 3 b3
 ·rw[if_pos a4]
  by_cases a5:65536<=c4N b0 b1 b2 b3/\isN (c4N b0 b1 b2 b3)
  ·rw[if_pos a5];exact⟨a4.2.2.2.1,Nat.le_refl _,a5.2.1⟩
  ·rw[if_neg a5];exact⟨Nat.zero_le _,Nat.zero_le _,Nat.zero_le _⟩
 ·rw[if_neg a4];exact⟨Nat.zero_le _,Nat.zero_le _,Nat.zero_le _⟩
def chars:Nat->List UInt8->Option (List Nat)
 | 0,_=>some []
 | n+1,l=>if l=[] then some [] else if (ptL l).2=0 then none else (chars n (l.drop (ptL l).2)).map ((ptL l).1 :: ·)
theorem chars_nil:∀ n,chars n []=some []
 | 0=>rfl
 | _+1=>by simp[chars]
theorem chars_fuel:∀(n m:Nat) (l:List UInt8),l.length<=n->l.length<=m->chars n l=chars m l
 | 0,m,l,hn,_=>by
   have:l=[]:=List.eq_nil_of_length_eq_zero (by omega)
   subst this;rw[chars_nil,chars_nil]
 | n+1,0,l,_,hm=>by
   have:l=[]:=List.eq_nil_of_length_eq_zero (by omega)
   subst this;rw[chars_nil,chars_nil]
 | n+1,m+1,l,hn,hm=>by
   unfold chars
   by_cases hne:l=[]
   ·simp[hne]
   ·have hl:0<l.length:=List.length_pos_iff.2 hne
    rw[if_neg hne,if_neg hne]
    by_cases h0:(ptL l).2=0
    ·rw[if_pos h0,if_pos h0]
    ·rw[if_neg h0,if_neg h0,chars_fuel n m (l.drop (ptL l).2) (by rw[List.length_drop];omega) (by rw[List.length_drop];omega)]
def charsD (l:List UInt8):Option (List Nat):=chars l.length l
theorem charsD_nil:charsD []=some []:=rfl
theorem charsD_step (l:List UInt8) (hne:l≠[]):charsD l=if (ptL l).2=0 then none else (charsD (l.drop (ptL l).2)).map ((ptL l).1 :: ·):=by
 have hl:0<l.length:=List.length_pos_iff.2 hne
 obtain⟨n,hn⟩:∃ n,l.length=n+1:=⟨l.length - 1,by omega⟩
 have e:charsD l=chars (n+1) l:=by unfold charsD;rw[hn]
 rw[e]
 show(if l=[] then some [] else _)=_
 rw[if_neg hne]
 by_cases h0:(ptL l).2=0
 ·rw[if_pos h0,if_pos h0]
 ·rw[if_neg h0,if_neg h0]
  unfold charsD
  rw[chars_fuel n (l.drop (ptL l).2).length _ (by rw[List.length_drop];omega) (Nat.le_refl _)]
theorem ptL_decode (l:List UInt8):(ptL l=(0,0)/\Lib.decodeL l=(65533,1))\/(0<(ptL l).2/\ptL l=Lib.decodeL l/\¬((Lib.decodeL l).1=65533/\(Lib.decodeL l).2=1)):=by
 rw[Lib.decodeL_N]
 exact ptN_decode _ _ _ _ _ (bAt_lt l 0) (bAt_lt l 1) (bAt_lt l 2) (bAt_lt l 3)
theorem chars_valid:∀(n:Nat) (l:List UInt8),l.length<=n->(charsD l).isSome=Lib.validD l
 | 0,l,hn=>by
   have:l=[]:=List.eq_nil_of_length_eq_zero (by omega)
   subst this;rfl
 | n+1,l,hn=>by
   by_cases hne:l=[]
   ·subst hne;rfl
   ·have hl:0<l.length:=List.length_pos_iff.2 hne
    rw[charsD_step l hne,Lib.validD_step l hne]
    rcases ptL_decode l with ⟨h1,h2⟩|⟨h1,h2,h3⟩
    ·rw[h1,h2];rfl
    ·rw[if_neg (by omega),if_neg h3,<-h2,Option.isSome_map]
     exact chars_valid n _ (by rw[List.length_drop];omega)
theorem chars_len:∀(n:Nat) (l:List UInt8) (cs:List Nat),l.length<=n->charsD l=some cs->cs.length<=l.length
 | 0,l,cs,hn,h=>by
   have:l=[]:=List.eq_nil_of_length_eq_zero (by omega)
   subst this
   rw[charsD_nil] at h;cases h;simp
 | n+1,l,cs,hn,h=>by
   by_cases hne:l=[]
   ·subst hne;rw[charsD_nil] at h;cases h;simp
   ·have hl:0<l.length:=List.length_pos_iff.2 hne
    rw[charsD_step l hne] at h
    by_cases h0:(ptL l).2=0
    ·rw[if_pos h0] at h;cases h
    ·rw[if_neg h0] at h
     cases hc:charsD (l.drop (ptL l).2) with
     | none=>rw[hc] at h;cases h
     | some t=>
       rw[hc] at h
       cases h
       have:=chars_len n (l.drop (ptL l).2) t (by rw[List.length_drop];omega) hc
       rw[List.length_drop] at this
       simp only[List.length_cons];omega
end Go.Proofs.YtkpoodjhjfmfjaaGreatDoor
namespace Go.Proofs.YtkpoodjhjfmfjaaGreatDoor
def encL (cs:List Nat):List UInt8:=cs.flatMap fun c:Nat=>(Utf8.encode (c:Int)).data.toList
def encS (cs:List Nat):ByteArray:=runesBytes (cs.map fun c:Nat=>(c:Int))
theorem encL_cons (c:Nat) (cs:List Nat):encL (c :: cs)=(Utf8.encode (c:Int)).data.toList++encL cs:=rfl
theorem runes_fold:∀(cs:List Nat) (s:ByteArray),((cs.map fun c:Nat=>(c:Int)).foldl (fun r n=>r++Utf8.encode n) s).data.toList=s.data.toList++encL cs
 | [],s=>by simp[encL]
 | c :: cs,s=>by
   rw[List.map_cons,List.foldl_cons,runes_fold cs,encL_cons,<-List.append_assoc]
   simp
theorem encS_list (cs:List Nat):(encS cs).data.toList=encL cs:=by
 unfold encS runesBytes
 rw[runes_fold];rfl
theorem bytes_ext {s t:ByteArray} (h:s.data.toList=t.data.toList):s=t:=by
 obtain⟨a⟩:=s
 obtain⟨b⟩:=t
 simp only[Array.toList_inj] at h
 rw[h]
theorem valid_isN {c:Nat} (h:isN c):Utf8.valid (c:Int)=true:=by
 unfold isN at h
 simp[Utf8.valid];omega
theorem enc1 {c:Nat} (h:isN c) (h1:c<128):(Utf8.encode (c:Int)).data.toList=[UInt8.ofNat c]:=by
 simp[Utf8.encode,valid_isN h,h1]
theorem enc2 {c:Nat} (h:isN c) (h1:¬ c<128) (h2:c<2048):(Utf8.encode (c:Int)).data.toList=[UInt8.ofNat (192+c / 64),UInt8.ofNat (128+c % 64)]:=by
 simp[Utf8.encode,valid_isN h,h1,h2]
theorem enc3 {c:Nat} (h:isN c) (h1:¬ c<128) (h2:¬ c<2048) (h3:c<65536):(Utf8.encode (c:Int)).data.toList=[UInt8.ofNat (224+c / 4096),UInt8.ofNat (128+c / 64 % 64),UInt8.ofNat (128+c % 64)]:=by
 simp[Utf8.encode,valid_isN h,h1,h2,h3]
theorem enc4 {c:Nat} (h:isN c) (h1:¬ c<128) (h2:¬ c<2048) (h3:¬ c<65536):(Utf8.encode (c:Int)).data.toList=[UInt8.ofNat (240+c / 262144),UInt8.ofNat (128+c / 4096 % 64),UInt8.ofNat (128+c / 64 % 64),UInt8.ofNat (128+c % 64)]:=by
 simp[Utf8.encode,valid_isN h,h1,h2,h3]
theorem un8 (n:Nat) (h:n<256):(UInt8.ofNat n).toNat=n:=by rw[UInt8.toNat_ofNat'];omega
theorem dec_enc {c:Nat} (h:isN c) (rest:List UInt8):Lib.decodeL ((Utf8.encode (c:Int)).data.toList++rest)=(c,(Utf8.encode (c:Int)).data.toList.length)/\0<(Utf8.encode (c:Int)).data.toList.length/\¬(c=65533/\(Utf8.encode (c:Int)).data.toList.length=1):=by
 have hb:=h
 unfold isN at hb
 rw[Lib.decodeL_N]
 by_cases h1:c<128
 ·rw[enc1 h h1]
  refine⟨?_,by simp,by simp;omega⟩
  simp only[List.cons_append,List.nil_append,List.getD_cons_zero,un8 c (by omega)]
  unfold Lib.decodeN
  rw[if_pos h1];rfl
 ·by_cases h2:c<2048
  ·rw[enc2 h h1 h2]
   refine⟨?_,by simp,by simp⟩
   simp only[List.cons_append,List.nil_append,List.getD_cons_zero,List.getD_cons_succ,un8 (192+c / 64) (by omega),un8 (128+c % 64) (by omega),List.length_cons]
   unfold Lib.decodeN
   rw[if_neg (by omega),if_pos (by omega),if_pos (by omega)]
   rw[Prod.mk.injEq];exact⟨by omega,rfl⟩
  ·by_cases h3:c<65536
   ·rw[enc3 h h1 h2 h3]
    refine⟨?_,by simp,by simp⟩
    simp only[List.cons_append,List.nil_append,List.getD_cons_zero,List.getD_cons_succ,un8 (224+c / 4096) (by omega),un8 (128+c / 64 % 64) (by omega),un8 (128+c % 64) (by omega),List.length_cons]
    unfold Lib.decodeN
    rw[if_neg (by omega),if_neg (by omega),if_pos (by omega),if_pos (by omega)]
    rw[Prod.mk.injEq];exact⟨by omega,rfl⟩
   ·rw[enc4 h h1 h2 h3]
    refine⟨?_,by simp,by simp⟩
    simp only[List.cons_append,List.nil_append,List.getD_cons_zero,List.getD_cons_succ,un8 (240+c / 262144) (by omega),un8 (128+c / 4096 % 64) (by omega),un8 (128+c / 64 % 64) (by omega),un8 (128+c % 64) (by omega),List.length_cons]
    unfold Lib.decodeN
    rw[if_neg (by omega),if_neg (by omega),if_neg (by omega),if_pos (by omega),if_pos (by omega)]
    rw[Prod.mk.injEq];exact⟨by omega,rfl⟩
theorem pt_enc {c:Nat} (h:isN c) (rest:List UInt8):ptL ((Utf8.encode (c:Int)).data.toList++rest)=(c,(Utf8.encode (c:Int)).data.toList.length):=by
 obtain⟨h1,h2,h3⟩:=dec_enc h rest
 rcases ptL_decode ((Utf8.encode (c:Int)).data.toList++rest) with ⟨_,g⟩|⟨_,g,_⟩
 ·rw[h1,Prod.mk.injEq] at g;exact absurd g h3
 ·rw[g,h1]
theorem enc_ne {c:Nat} (h:isN c) (rest:List UInt8):(Utf8.encode (c:Int)).data.toList++rest≠[]:=by
 have:=(dec_enc h rest).2.1
 intro e
 rw[List.append_eq_nil_iff] at e
 rw[e.1] at this;simp at this
theorem chars_enc:∀ cs:List Nat,(∀ c ∈ cs,isN c)->charsD (encL cs)=some cs
 | [],_=>rfl
 | c :: cs,h=>by
   have hc:=h c (by simp)
   rw[encL_cons,charsD_step _ (enc_ne hc _),pt_enc hc,if_neg (by have:=(dec_enc hc []).2.1;simp only;omega)]
   simp only[List.drop_left']
   rw[chars_enc cs fun d hd=>h d (by simp[hd])];rfl
set_option maxRecDepth 100000 in
theorem ptL_isN (l:List UInt8) (h:0<(ptL l).2):isN (ptL l).1:=by
 unfold ptL ptN at h ⊢
 generalize bAt l 0=b0 at *
 generalize bAt l 1=b1 at *
 generalize bAt l 2=b2 at *
 generalize bAt l 3=b3 at *
 by_cases a1:b0<128
 ·rw[if_pos a1];unfold isN;simp only;omega
 ·rw[if_neg a1] at h ⊢
  by_cases a2:(194<=b0/\b0<224)/\tlN l.length 1 b1
  ·rw[if_pos a2];unfold isN c2N;unfold tlN at a2;simp only;clear h;omega
  ·rw[if_neg a2] at h ⊢
   by_cases a3:(224<=b0/\b0<240)/\tlN l.length 1 b1/\tlN l.length 2 b2
   ·rw[if_pos a3] at h ⊢
    by_cases a4:2048<=c3N b0 b1 b2/\isN (c3N b0 b1 b2)
    ·rw[if_pos a4];exact a4.2
    ·rw[if_neg a4] at h;simp at h
   ·rw[if_neg a3] at h ⊢
    by_cases a4:(240<=b0/\b0<245)/\tlN l.length 1 b1/\tlN l.length 2 b2/\tlN l.length 3 b3
    ·rw[if_pos a4] at h ⊢
     by_cases a5:65536<=c4N b0 b1 b2 b3/\isN (c4N b0 b1 b2 b3)
     ·rw[if_pos a5];exact a5.2
     ·rw[if_neg a5] at h;simp at h
    ·rw[if_neg a4] at h;simp at h
theorem encR_eq {c:Nat} (h:isN c):Lib.encodeRune (c:Int)=(Utf8.encode (c:Int)).data.toList:=by
 have hb:=h
 unfold isN at hb
 unfold Lib.encodeRune
 by_cases h1:c<128
 ·rw[enc1 h h1,Lib.encodeRuneZ_one (by omega) (by omega)];rfl
 ·by_cases h2:c<2048
  ·rw[enc2 h h1 h2,Lib.encodeRuneZ_two (by omega) (by omega)]
   simp only[List.map_cons,List.map_nil]
   rw[show(192+(c:Int) / 64).toNat=192+c / 64 by omega,show(128+(c:Int) % 64).toNat=128+c % 64 by omega]
  ·by_cases h3:c<65536
   ·rw[enc3 h h1 h2 h3,Lib.encodeRuneZ_three (by omega)]
    simp only[List.map_cons,List.map_nil]
    rw[show(224+(c:Int) / 4096).toNat=224+c / 4096 by omega,show(128+(c:Int) / 64 % 64).toNat=128+c / 64 % 64 by omega,show(128+(c:Int) % 64).toNat=128+c % 64 by omega]
   ·rw[enc4 h h1 h2 h3,Lib.encodeRuneZ_four (by omega) (by omega)]
    simp only[List.map_cons,List.map_nil]
    rw[show(240+(c:Int) / 262144).toNat=240+c / 262144 by omega,show(128+(c:Int) / 4096 % 64).toNat=128+c / 4096 % 64 by omega,show(128+(c:Int) / 64 % 64).toNat=128+c / 64 % 64 by omega,show(128+(c:Int) % 64).toNat=128+c % 64 by omega]
theorem enc_chars:∀(n:Nat) (l:List UInt8) (cs:List Nat),l.length<=n->charsD l=some cs->encL cs=l/\∀ c ∈ cs,isN c
 | 0,l,cs,hn,h=>by
   have:l=[]:=List.eq_nil_of_length_eq_zero (by omega)
   subst this
   rw[charsD_nil] at h;cases h
   exact⟨rfl,by simp⟩
 | n+1,l,cs,hn,h=>by
   by_cases hne:l=[]
   ·subst hne
    rw[charsD_nil] at h;cases h
    exact⟨rfl,by simp⟩
   ·rw[charsD_step l hne] at h
    by_cases h0:(ptL l).2=0
    ·rw[if_pos h0] at h;cases h
    ·rw[if_neg h0] at h
     cases hd:charsD (l.drop (ptL l).2) with
     | none=>rw[hd] at h;cases h
     | some cs'=>
       rw[hd] at h
       simp only[Option.map_some,Option.some.injEq] at h
       subst h
       have hN:=ptL_isN l (by omega)
       obtain⟨h1,h2⟩:=enc_chars n (l.drop (ptL l).2) cs' (by rw[List.length_drop];have:=List.length_pos_iff.2 hne;omega) hd
       refine⟨?_,fun c hc=>?_⟩
       ·rw[encL_cons,h1,<-encR_eq hN]
        rcases ptL_decode l with ⟨g,_⟩|⟨_,g,g2⟩
        ·rw[g] at h0;simp at h0
        ·rw[g,Lib.encode_decode l hne g2,List.take_append_drop]
       ·rcases List.mem_cons.1 hc with rfl|hc
        ·exact hN
        ·exact h2 c hc
def chrs (s:ByteArray):List Nat:=(charsD s.data.toList).getD []
theorem chrs_isN (s:ByteArray):∀ c ∈ chrs s,isN c:=by
 unfold chrs
 cases h:charsD s.data.toList with
 | none=>simp
 | some cs=>exact(enc_chars _ _ cs (Nat.le_refl _) h).2
theorem chrs_encS {cs:List Nat} (h:∀ c ∈ cs,isN c):chrs (encS cs)=cs/\(charsD (encS cs).data.toList).isSome=true:=by
 unfold chrs
 rw[encS_list,chars_enc cs h];exact⟨rfl,rfl⟩
theorem chrs_len (s:ByteArray):(chrs s).length<=s.size:=by
 unfold chrs
 cases h:charsD s.data.toList with
 | none=>simp
 | some cs=>
   have:=chars_len _ _ cs (Nat.le_refl _) h
   simpa using this
theorem decode_step {s:ByteArray} {pos:Nat} {cs:List Nat} (hp:pos<s.size) (h:charsD (s.data.toList.drop pos)=some cs) :
  ∃ c t,cs=c :: t/\(Utf8.decode s pos).1=c/\0<(Utf8.decode s pos).2/\pos+(Utf8.decode s pos).2<=s.size/\charsD (s.data.toList.drop (pos+(Utf8.decode s pos).2))=some t/\isN c:=by
 have hne:s.data.toList.drop pos≠[]:=fun e=>by
  have:=congrArg List.length e
  rw[List.length_drop] at this;simp at this;omega
 rw[charsD_step _ hne] at h
 by_cases h0:(ptL (s.data.toList.drop pos)).2=0
 ·rw[if_pos h0] at h;cases h
 ·rw[if_neg h0] at h
  have hb:=ptL_bound _ hne
  have hN:=ptL_isN _ (Nat.pos_of_ne_zero h0)
  rcases ptL_decode (s.data.toList.drop pos) with ⟨g,_⟩|⟨_,g,_⟩
  ·rw[g] at h0;simp at h0
  ·rw[Lib.decodeL_drop] at g
   rw[g] at h h0 hb hN
   cases hd:charsD ((s.data.toList.drop pos).drop (Utf8.decode s pos).2) with
   | none=>rw[hd] at h;cases h
   | some t=>
     rw[hd] at h
     simp only[Option.map_some,Option.some.injEq] at h
     rw[List.drop_drop] at hd
     rw[List.length_drop] at hb
     refine⟨_,t,h.symm,rfl,by omega,?_,hd,hN⟩
     have:=hb.1
     simp at this
     omega
end Go.Proofs.YtkpoodjhjfmfjaaGreatDoor
namespace Go.Proofs.YtkpoodjhjfmfjaaGreatDoor
section
variable {cs : List Nat} {lo hi : Nat}
variable {wid : Nat → Nat} {tab : Nat}
end
end Go.Proofs.YtkpoodjhjfmfjaaGreatDoor
namespace Go.Proofs.YtkpoodjhjfmfjaaGreatDoor
open Go.RowKit
structure GapI (w:World) (t g:Nat) (B:List Int) (cap st en:Nat) (cs:List Nat):Prop where
 c0:w.cell? ⟨t,0,none⟩=some (.slice (some ⟨g,0,none⟩) B.length cap)
 c1:w.cell? ⟨t,1,none⟩=some (.int .i64 st)
 c2:w.cell? ⟨t,2,none⟩=some (.int .i64 en)
 hc:B.length<=cap
 hm:B.length<=1000000
 hg:g<w.heap.size
 hb:∀(i:Nat) (z:Int),B[i]?=some z->w.cell? ⟨g,i,none⟩=some (.int .i32 z)
 h1:st<=en
 h2:en<=B.length
 hB:B.take st++B.drop en=cs.map Int.ofNat
 hn:∀ c ∈ cs,isN c
def GapR (w:World) (t g:Nat) (cs:List Nat):Prop:=∃ B cap st en,GapI w t g B cap st en cs
section
variable {w w' : World} {t g cap st en : Nat} {B : List Int} {cs : List Nat}
theorem GapI.lt (h:GapI w t g B cap st en cs):t<w.heap.size:=lt_of_cell h.c0
theorem GapI.kept (h:GapI w t g B cap st en cs) (ht:w'.heap[t]?=w.heap[t]?) (hg:w'.heap[g]?=w.heap[g]?) (hs:w.heap.size<=w'.heap.size):GapI w' t g B cap st en cs:=
 ⟨(World.cell?_of_block (w:=w) (a:=⟨t,0,none⟩) ht).trans h.c0,(World.cell?_of_block (w:=w) (a:=⟨t,1,none⟩) ht).trans h.c1,(World.cell?_of_block (w:=w) (a:=⟨t,2,none⟩) ht).trans h.c2,h.hc,h.hm,Nat.lt_of_lt_of_le h.hg hs,
   fun i z hz=>(World.cell?_of_block (w:=w) (a:=⟨g,i,none⟩) hg).trans (h.hb i z hz),h.h1,h.h2,h.hB,h.hn⟩
theorem GapI.up (h:GapI w t g B cap st en cs) (hb:Below w.heap.size w w'):GapI w' t g B cap st en cs:=h.kept (hb.block t h.lt) (hb.block g h.hg) hb.size
theorem GapR.up (h:GapR w t g cs) (hb:Below w.heap.size w w'):GapR w' t g cs:=by obtain⟨B,cap,st,en,h⟩:=h;exact⟨B,cap,st,en,h.up hb⟩
theorem GapI.len (h:GapI w t g B cap st en cs):cs.length+(en - st)=B.length:=by
 have e:=congrArg List.length h.hB
 rw[List.length_append,List.length_take,List.length_drop,List.length_map] at e
 have:=h.h1;have:=h.h2;omega
theorem GapR.len (h:GapR w t g cs):cs.length<=1000000:=by
 obtain⟨B,cap,st,en,h⟩:=h
 have:=h.len;have:=h.hc;have:=h.hm;omega
set_option maxRecDepth 100000 in
set_option maxHeartbeats 1000000 in
theorem gnone (h:GapI w t g B cap st en cs):Calls Tryz.prog 176 #[.pointer (some ⟨t,0,none⟩)] w fun e w'=>e=.returned (.bool false)/\w=w':=by
 have c0:=h.c0
 have hn:=Lib.run_eql_slice_nil (P:=Tryz.prog) w 182 21 (some ⟨g,0,none⟩) B.length cap 0 0 Tryz.underlying182
 clear h
 go_enter Tryz.func176,Tryz.ntmps176
 go_wp2_with fail
 go_ret
 exact⟨rfl,rfl⟩
set_option maxHeartbeats 1000000 in
theorem gsize (h:GapR w t g cs):Calls Tryz.prog 100 #[.pointer (some ⟨t,0,none⟩)] w fun e w'=>e=.returned (.int .i64 cs.length)/\Below w.heap.size w w':=by
 obtain⟨B,cap,st,en,h⟩:=h
 have c0:=h.c0
 have c1:=h.c1
 have c2:=h.c2
 have hl:=h.len
 have h1:=h.h1
 have h2:=h.h2
 have h3:=h.hc
 have h4:=h.hm
 have s1:IntKind.i64.wrap ((en:Int) -(st:Int))=(en:Int) -(st:Int):=IntWalk.i64_in _ (by omega)
 have s2:IntKind.i64.wrap ((B.length:Int) -((en:Int) -(st:Int)))=(cs.length:Int):=by rw[IntWalk.i64_in _ (by omega)];omega
 have HN:=qH (gnone h)
 clear h hl h1 h2 h3 h4
 go_enter Tryz.func100,Tryz.ntmps100
 go_wp2_with fail
 refine HN.out.mono ?_
 rintro e w' ⟨rfl,rfl⟩
 go_wp2_with fail
 go_region
 go_wp2_with fail
 go_ret
 exact⟨rfl,(Below.refl _ w).drew⟩
def intOf:Value->Int
 | .int _ n=>n
 | _=>0
end
end Go.Proofs.YtkpoodjhjfmfjaaGreatDoor
namespace Go.Proofs.YtkpoodjhjfmfjaaGreatDoor
open Go.RowKit
abbrev txtC (g L cap st en:Nat) (f:Value):Array Value:=#[.slice (some ⟨g,0,none⟩) L cap,.int .i64 st,.int .i64 en,f]
section
variable {w w' : World} {t g : Nat}
set_option maxHeartbeats 1000000 in
theorem gmove0 (f:Value) (h:Blk w t 184 (txtC g 0 0 0 0 f)):Calls Tryz.prog 220 #[.pointer (some ⟨t,0,none⟩),.int .i64 0] w fun e w'=>e=.returned (.tuple #[])/\Only (fun k=>k=t) w w'/\Blk w' t 184 (txtC g 0 0 0 0 f):=by
 have c0:=h.cell (j:=0) rfl
 have c1:=h.cell (j:=1) rfl
 have c2:=h.cell (j:=2) rfl
 have f1:=h.fz 1
 have f2:=h.fz 2
 have cp:=fun w ty=>run_copy_none (P:=Tryz.prog) w 182 182 ty 21 (some ⟨g,0,none⟩) (some ⟨g,0,none⟩) 0 0 0 0 Tryz.underlying182 (by kernel_rfl) rfl
 have H:=qH h
 clear h
 go_enter Tryz.func220,Tryz.ntmps220
 go_wp2_with fail
 go_region
 go_wp2_with fail
 go_region
 go_wp2_with fail
 go_end0
 refine⟨rfl,((((Only.refl (fun k=>k=t) w).setCell (p:=⟨t,1,none⟩) rfl _).setCell (p:=⟨t,2,none⟩) rfl _).drew).drew,?_⟩
 exact((H.out.set (j:=1) (by simp) (.int .i64 0)).set (j:=2) (by simp) (.int .i64 0))
end
end Go.Proofs.YtkpoodjhjfmfjaaGreatDoor
namespace Go.Proofs.YtkpoodjhjfmfjaaGreatDoor
open Go.RowKit
end Go.Proofs.YtkpoodjhjfmfjaaGreatDoor
namespace Go.Proofs.YtkpoodjhjfmfjaaGreatDoor
open Go.RowKit
theorem below_drewN {B:Nat} {a w:World} (h:Below B a w) (n:Nat):Below B a (w.drewN n):=⟨h.os,h.tape,h.output,h.size,h.block⟩
end Go.Proofs.YtkpoodjhjfmfjaaGreatDoor
namespace Go.Proofs.YtkpoodjhjfmfjaaGreatDoor
open Go.RowKit
def Tabs (N:Nat) (w:World):Prop:=Lib.Utf8Tabs (Tryz.laysValid_ren.g 3) (Tryz.laysValid_ren.g 4) w/\Tryz.laysValid_ren.g 3<N/\Tryz.laysValid_ren.g 4<N
theorem Tabs.up {N:Nat} {w w':World} (h:Tabs N w) (hb:Below w.heap.size w w'):Tabs N w':=⟨Utf8Tabs_below h.1 hb,h.2⟩
theorem Tabs.only {N:Nat} {S:Nat->Prop} {w w':World} (h:Tabs N w) (ho:Only S w w') (hs:∀ k,S k->N<=k):Tabs N w':=by
 obtain⟨⟨a,b⟩,h3,h4⟩:=h
 have l3:=lt_of_cell (a 0 (by omega))
 have l4:=lt_of_cell (b 0 (by omega)).1
 have e3:=ho.block _ l3 (fun hk=>by have:=hs _ hk;omega)
 have e4:=ho.block _ l4 (fun hk=>by have:=hs _ hk;omega)
 exact⟨⟨fun c hc=>(World.cell?_of_block (w:=w) (a:=⟨_,c,none⟩) e3).trans (a c hc),fun i hi=>⟨(World.cell?_of_block (w:=w) (a:=⟨_,2*i,none⟩) e4).trans (b i hi).1,(World.cell?_of_block (w:=w) (a:=⟨_,2*i+1,none⟩) e4).trans (b i hi).2⟩⟩,h3,h4⟩
def vld (s:ByteArray):Bool:=Lib.validD s.data.toList
theorem valid_any {N:Nat} (s:ByteArray) (w:World) (hs:s.size<=1000000000) (hT:Tabs N w):Calls Tryz.prog 168 #[.string s] w fun e w'=>e=.returned (.bool (vld s))/\Below w.heap.size w w':=by
 have cV:Calls Tryz.prog 236 #[.string s] w _:=Any.utf8_ValidString Tryz.laysValid s w (by omega) hT.1
 unfold vld
 generalize Lib.validD s.data.toList=V at cV ⊢
 go_enter Tryz.func168,Tryz.ntmps168
 go_wp2_with (go_at_call 236;refine cV.mono ?_;rintro e w' ⟨rfl,hb⟩)
 go_ret
 exact⟨rfl,hb⟩
end Go.Proofs.YtkpoodjhjfmfjaaGreatDoor
namespace Go.Proofs.YtkpoodjhjfmfjaaGreatDoor
open Go.RowKit
abbrev encI (z:Int):List Value:=[.int .i64 z]
theorem eltI:Elt encI 78 3 1 8 (.int .i64 0):=⟨Tryz.underlying78,by kernel_rfl,rfl,by omega,fun _=>rfl,fun x u hu=>by simp at hu;subst hu;rfl⟩
theorem vld_chars (s:ByteArray):vld s=(charsD s.data.toList).isSome:=(chars_valid _ _ (Nat.le_refl _)).symm
def rlenG (s:ByteArray):Nat:=if vld s then Lib.runeCount s else 0
set_option maxHeartbeats 1000000 in
theorem runesLen {N:Nat} (s:ByteArray) (w:World) (hs:s.size<=1000000000) (hT:Tabs N w):Calls Tryz.prog 160 #[.string s] w fun e w'=>e=.returned (.int .i64 (rlenG s))/\Below w.heap.size w w':=by
 have hV:=valid_any s w hs hT
 unfold rlenG
 have HV:=qH hV
 clear hV
 cases hv:vld s with
 | true=>
   rw[hv] at HV
   go_enter Tryz.func160,Tryz.ntmps160
   go_wp2_with fail
   refine HV.out.mono ?_
   rintro e w' ⟨rfl,hb⟩
   have hC:Calls Tryz.prog 234 #[.string s] w' _:=Any.utf8_RuneCountInString Tryz.laysCount s w' (by omega)
   go_wp2_with fail
   refine hC.mono ?_
   rintro e w2 ⟨rfl,pos,rfl⟩
   go_wp2_with fail
   go_ret
   exact⟨ret_int (by simp),up2 hb (below1 _ _)⟩
 | false=>
   rw[hv] at HV
   go_enter Tryz.func160,Tryz.ntmps160
   go_wp2_with fail
   refine HV.out.mono ?_
   rintro e w' ⟨rfl,hb⟩
   go_wp2_with fail
   go_ret
   exact⟨ret_int (by simp),hb⟩
end Go.Proofs.YtkpoodjhjfmfjaaGreatDoor
namespace Go.Proofs.YtkpoodjhjfmfjaaGreatDoor
open Go.RowKit
theorem count_chars (s:ByteArray):∀(n pos:Nat) (cs:List Nat),s.size - pos<=n->pos<=s.size->charsD (s.data.toList.drop pos)=some cs->Lib.runeCountFrom s n pos=cs.length
 | 0,pos,cs,h1,h2,h=>by
   have e:pos=s.size:=by omega
   have:s.data.toList.drop pos=[]:=List.drop_eq_nil_of_le (by rw[e];simp)
   rw[this,charsD_nil] at h
   cases h;rfl
 | n+1,pos,cs,h1,h2,h=>by
   unfold Lib.runeCountFrom
   by_cases hp:pos<s.size
   ·rw[if_pos hp]
    obtain⟨c,t,rfl,_,hd,hle,hr,_⟩:=decode_step hp h
    rw[count_chars s n _ t (by omega) hle hr]
    simp;omega
   ·rw[if_neg hp]
    have:s.data.toList.drop pos=[]:=List.drop_eq_nil_of_le (by simp;omega)
    rw[this,charsD_nil] at h
    cases h;rfl
theorem rlenG_chars {s:ByteArray} (h:(charsD s.data.toList).isSome=true):rlenG s=(chrs s).length:=by
 obtain⟨cs,hc⟩:=Option.isSome_iff_exists.1 h
 unfold rlenG
 rw[vld_chars,h,if_pos rfl]
 unfold chrs Lib.runeCount
 rw[hc]
 exact count_chars s s.size 0 cs (by omega) (by omega) (by simpa using hc)
section
variable {w w' : World}
set_option maxHeartbeats 1000000 in
theorem bsearch_nil (x:Int):Calls Tryz.prog 221 #[.slice none 0 0,.int .i64 x] w fun e w'=>e=.returned (.tuple #[.int .i64 0,.bool false])/\w=w':=by
 go_enter Tryz.func221,Tryz.ntmps221
 go_wp2_with fail
 go_loopw [7,8] (fun va vb wr=>va=.int .i64 0/\vb=.int .i64 0/\w=wr) (fun _ _ _=>0)
 case atStart=>exact⟨rfl,rfl,rfl⟩
 case round=>
  obtain⟨rfl,rfl,rfl⟩:=hrel
  go_wp2_with fail
  go_ret2
  exact⟨rfl,rfl⟩
end
end Go.Proofs.YtkpoodjhjfmfjaaGreatDoor
namespace Go.Proofs.YtkpoodjhjfmfjaaGreatDoor
open Go.RowKit
def ruleB (j:Nat):Bool:=[4,5,8,11,12,16,20,21,22].contains j
def Rules (N:Nat) (w:World):Prop:=2<N/\∀ j,j<28->w.cell? ⟨2,j,none⟩=some (.bool (ruleB j))
theorem Rules.lt {N:Nat} {w:World} (h:Rules N w):2<w.heap.size:=lt_of_cell (h.2 0 (by omega))
theorem Rules.up {N:Nat} {w w':World} (h:Rules N w) (hb:Below w.heap.size w w'):Rules N w':=⟨h.1,fun j hj=>(World.cell?_of_block (w:=w) (a:=⟨2,j,none⟩) (hb.block 2 h.lt)).trans (h.2 j hj)⟩
theorem Rules.only {N:Nat} {Z:Nat->Prop} {w w':World} (h:Rules N w) (ho:Only Z w w') (hz:∀ k,Z k->N<=k):Rules N w':=
 ⟨h.1,fun j hj=>(World.cell?_of_block (w:=w) (a:=⟨2,j,none⟩) (ho.block 2 h.lt (fun hk=>by have:=hz _ hk;have:=h.1;omega))).trans (h.2 j hj)⟩
section
variable {w w' : World} {N l : Nat}
end
end Go.Proofs.YtkpoodjhjfmfjaaGreatDoor
namespace Go.Proofs.YtkpoodjhjfmfjaaGreatDoor
open Go.RowKit Go.Lib
section
variable {P : Program} {w : World}
def stL (cur:List Value):Nat->List Value->List Value
 | _,[]=>cur
 | o,v :: r=>stL (cur.set o v) (o+1) r
theorem stL_eq:∀(vs cur:List Value) (o:Nat),o+vs.length<=cur.length->stL cur o vs=cur.take o++vs++cur.drop (o+vs.length)
 | [],cur,o,h=>by simp[stL]
 | v :: r,cur,o,h=>by
   simp only[List.length_cons] at h
   rw[stL,stL_eq r (cur.set o v) (o+1) (by simp;omega)]
   have h1:(cur.set o v).take (o+1)=cur.take o++[v]:=by
    rw[List.take_succ_eq_append_getElem (by simp;omega),List.take_set_of_le (Nat.le_refl _)];simp
   have h2:(cur.set o v).drop (o+1+r.length)=cur.drop (o+1+r.length):=List.drop_set_of_lt (by omega)
   rw[h1,h2,List.length_cons,show o+(r.length+1)=o+1+r.length by omega]
   simp
theorem stL_length:∀(vs cur:List Value) (o:Nat),(stL cur o vs).length=cur.length
 | [],cur,o=>rfl
 | v :: r,cur,o=>by rw[stL,stL_length r];simp
theorem heap_setCells {g:Nat} {E:TypeId}:∀(vs:List Value) (o:Nat) (w:World) (cur:List Value),w.heap[g]?=some (.cells cur.toArray E (0,0))->(w.setCells g o vs).heap[g]?=some (.cells (stL cur o vs).toArray E (0,0))
 | [],o,w,cur,h=>h
 | v :: r,o,w,cur,h=>by
   rw[World.setCells,stL]
   refine heap_setCells r (o+1) _ _ ?_
   have:=heap_setCell_same w g o _ _ v h
   simpa using this
theorem only_setCells {g:Nat}:∀(vs:List Value) (o:Nat) (w:World),Only (·=g) w (w.setCells g o vs)
 | [],o,w=>Only.refl _ _
 | v :: r,o,w=>((Only.refl (·=g) w).setCell (p:=⟨g,o,none⟩) rfl v).trans (only_setCells r (o+1) _)
theorem size_setCells {g:Nat}:∀(vs:List Value) (o:Nat) (w:World),(w.setCells g o vs).heap.size=w.heap.size
 | [],o,w=>rfl
 | v :: r,o,w=>by rw[World.setCells,size_setCells r (o+1)];simp
end
abbrev encR (z:Int):Value:=.int .i32 z
abbrev rowR (B:List Int):Array Value:=(B.map encR).toArray
theorem infoR:(Tryz.prog.info? 21).map (·.size)=some 1:=by kernel_rfl
def laidOver (B:List Int) (o:Nat) (S:List Int) (p n:Nat):List Int:=B.take o++(S.drop p).take n++B.drop (o+n)
theorem laidOver_len {B S:List Int} {o p n:Nat} (ho:o+n<=B.length) (hp:p+n<=S.length):(laidOver B o S p n).length=B.length:=by
 unfold laidOver
 simp only[List.length_append,List.length_take,List.length_drop];omega
theorem laidOver_zero (B S:List Int) (o p:Nat):laidOver B o S p 0=B:=by simp[laidOver]
theorem copy_over {w:World} {gd gs o p n dl dc sl sc:Nat} {D S:List Int} (hD:Blk w gd 21 (rowR D)) (hS:Blk w gs 21 (rowR S)) (ho:o+n<=D.length) (hp:p+n<=S.length) (hn:Nat.min sl dl=n) :
  ∃ w',(∀ ty ad az,(0<n->ad=some ⟨gd,o,none⟩/\az=some ⟨gs,p,none⟩)->(Builtin.copy_ #[182,182] ty #[.slice ad dl dc,.slice az sl sc]).run Tryz.prog w=.ok (goInt n) w') /\
    Only (·=gd) w w'/\Blk w' gd 21 (rowR (laidOver D o S p n))/\w'.heap.size=w.heap.size:=by
 rcases Nat.eq_zero_or_pos n with h0|h0
 ·subst h0
  refine⟨w,fun ty ad az _=>?_,Only.refl _ _,by rw[laidOver_zero];exact hD,rfl⟩
  have:=run_copy_none (P:=Tryz.prog) w 182 182 ty 21 ad az dl dc sl sc Tryz.underlying182 infoR hn
  simpa using this
 ·have hl:(((S.drop p).take n).map encR).length=n:=by simp;omega
  refine⟨w.setCells gd o (((S.drop p).take n).map encR),fun ty ad az h=>?_,only_setCells _ _ _,?_,size_setCells _ _ _⟩
  ·obtain⟨rfl,rfl⟩:=h h0
   have:=run_copy_cells (P:=Tryz.prog) w 182 182 ty 21 gd o dl dc ⟨gs,p,none⟩ sl sc (((S.drop p).take n).map encR) Tryz.underlying182 infoR (by rw[hl,hn])
    (fun j v hj=>by
     have hj2:j<n:=by have:=List.getElem?_eq_some_iff.1 hj;obtain⟨h1,_⟩:=this;omega
     rw[Addr.add_lit]
     refine hS.cell ?_
     rw[List.getElem?_map] at hj
     rw[List.getElem?_take_of_lt hj2,List.getElem?_drop] at hj
     simpa using hj)
    (fun j hj=>by
     have:o+j<D.length:=by rw[hl] at hj;omega
     rw[hD.cell (j:=o+j) (v:=encR D[o+j]) (by simp[this])];rfl)
    (fun j hj=>hD.fz _) (fun v hv=>by obtain⟨z,_,rfl⟩:=List.mem_map.1 hv;rfl)
   rw[hl] at this
   exact this
  ·have:=heap_setCells (((S.drop p).take n).map encR) o w (D.map encR) hD
   rw[stL_eq _ _ _ (by rw[hl];simp;omega),hl] at this
   unfold Blk
   rw[this]
   unfold laidOver
   simp
section
variable {w w' : World} {t g : Nat}
structure GapV (w:World) (t g:Nat) (B Xt:List Int) (st en:Nat) (fv:Value):Prop where
 blk:Blk w t 184 (txtC g B.length (B.length+Xt.length) st en fv)
 buf:Blk w g 21 (rowR (B++Xt))
 tg:t≠g
 lim:B.length<=200000
 h1:st<=en
 h2:en<=B.length
def GapW (w:World) (t g:Nat) (B:List Int) (st en:Nat) (fv:Value):Prop:=∃ Xt,GapV w t g B Xt st en fv
section
variable {B : List Int} {st en : Nat} {fv : Value}
theorem GapW.tg (h:GapW w t g B st en fv):t≠g:=by obtain⟨X,h⟩:=h;exact h.tg
theorem GapW.lim (h:GapW w t g B st en fv):B.length<=200000:=by obtain⟨X,h⟩:=h;exact h.lim
theorem GapW.h1 (h:GapW w t g B st en fv):st<=en:=by obtain⟨X,h⟩:=h;exact h.h1
theorem GapW.h2 (h:GapW w t g B st en fv):en<=B.length:=by obtain⟨X,h⟩:=h;exact h.h2
theorem GapW.ltT (h:GapW w t g B st en fv):t<w.heap.size:=by obtain⟨X,h⟩:=h;exact h.blk.lt
theorem GapW.ltG (h:GapW w t g B st en fv):g<w.heap.size:=by obtain⟨X,h⟩:=h;exact h.buf.lt
theorem GapW.ex (h:GapW w t g B st en fv):∃ c,B.length<=c/\Blk w t 184 (txtC g B.length c st en fv):=by obtain⟨X,h⟩:=h;exact⟨_,Nat.le_add_right _ _,h.blk⟩
theorem GapW.c0 (h:GapW w t g B st en fv):∃ c,B.length<=c/\w.cell? ⟨t,0,none⟩=some (.slice (some ⟨g,0,none⟩) B.length c):=by obtain⟨c,h1,h3⟩:=h.ex;exact⟨c,h1,h3.cell (j:=0) rfl⟩
theorem GapW.c1 (h:GapW w t g B st en fv):w.cell? ⟨t,1,none⟩=some (.int .i64 st):=by obtain⟨c,_,h3⟩:=h.ex;exact h3.cell (j:=1) rfl
theorem GapW.c2 (h:GapW w t g B st en fv):w.cell? ⟨t,2,none⟩=some (.int .i64 en):=by obtain⟨c,_,h3⟩:=h.ex;exact h3.cell (j:=2) rfl
theorem GapW.c3 (h:GapW w t g B st en fv):w.cell? ⟨t,3,none⟩=some fv:=by obtain⟨c,_,h3⟩:=h.ex;exact h3.cell (j:=3) rfl
theorem GapW.fzT (h:GapW w t g B st en fv) (j:Nat):w.frozen? ⟨t,j,none⟩=false:=by obtain⟨c,_,h3⟩:=h.ex;exact h3.fz j
theorem GapW.fzG (h:GapW w t g B st en fv) (j:Nat):w.frozen? ⟨g,j,none⟩=false:=by obtain⟨X,h⟩:=h;exact h.buf.fz j
theorem GapW.at_ (h:GapW w t g B st en fv) {j:Nat} {z:Int} (hj:B[j]?=some z):w.cell? ⟨g,j,none⟩=some (encR z):=by
 obtain⟨X,h⟩:=h
 refine h.buf.cell ?_
 have hl:=(List.getElem?_eq_some_iff.1 hj).1
 show((B++X).map encR).toArray[j]?=_
 rw[List.getElem?_toArray,List.getElem?_map,List.getElem?_append_left hl,hj];rfl
theorem GapW.kept (h:GapW w t g B st en fv) (ht:w'.heap[t]?=w.heap[t]?) (hg:w'.heap[g]?=w.heap[g]?):GapW w' t g B st en fv:=by
 obtain⟨X,h⟩:=h;exact⟨X,h.blk.kept ht,h.buf.kept hg,h.tg,h.lim,h.h1,h.h2⟩
theorem GapW.up (h:GapW w t g B st en fv) (hb:Below w.heap.size w w'):GapW w' t g B st en fv:=h.kept (hb.block _ h.ltT) (hb.block _ h.ltG)
theorem GapW.only {S:Nat->Prop} (h:GapW w t g B st en fv) (ho:Only S w w') (h1:¬ S t) (h2:¬ S g):GapW w' t g B st en fv:=h.kept (ho.block _ h.ltT h1) (ho.block _ h.ltG h2)
theorem GapW.setG (h:GapW w t g B st en fv) {j:Nat} (hj:j<B.length) (z:Int):GapW (w.setCell ⟨g,j,none⟩ (encR z)) t g (B.set j z) st en fv:=by
 obtain⟨X,h⟩:=h
 refine⟨X,?_,?_,h.tg,by simpa using h.lim,h.h1,by simpa using h.h2⟩
 ·rw[List.length_set];exact h.blk.kept (Below.heap_setCell _ _ _ _ h.tg)
 ·have:=h.buf.set (j:=j) (by simp;omega) (encR z)
  have e:rowR (B.set j z++X)=(rowR (B++X)).set j (encR z) (by simp;omega):=by
   apply Array.ext'
   show(B.set j z++X).map encR=(((B++X).map encR).toArray.set j (encR z) _).toList
   rw[<-List.set_append_left _ _ hj]
   simp[List.map_set]
  rw[e];exact this
theorem GapW.setS (h:GapW w t g B st en fv) (st':Nat) (h1:st'<=en):GapW (w.setCell ⟨t,1,none⟩ (.int .i64 st')) t g B st' en fv:=by
 obtain⟨X,h⟩:=h
 exact⟨X,h.blk.set (j:=1) (by simp) _,h.buf.kept (Below.heap_setCell _ _ _ _ (fun e=>h.tg e.symm)),h.tg,h.lim,h1,h.h2⟩
theorem GapW.setE (h:GapW w t g B st en fv) (en':Nat) (h1:st<=en') (h2:en'<=B.length):GapW (w.setCell ⟨t,2,none⟩ (.int .i64 en')) t g B st en' fv:=by
 obtain⟨X,h⟩:=h
 exact⟨X,h.blk.set (j:=2) (by simp) _,h.buf.kept (Below.heap_setCell _ _ _ _ (fun e=>h.tg e.symm)),h.tg,h.lim,h1,h2⟩
theorem GapW.setF (h:GapW w t g B st en fv) (fv':Value):GapW (w.setCell ⟨t,3,none⟩ fv') t g B st en fv':=by
 obtain⟨X,h⟩:=h
 exact⟨X,h.blk.set (j:=3) (by simp) _,h.buf.kept (Below.heap_setCell _ _ _ _ (fun e=>h.tg e.symm)),h.tg,h.lim,h.h1,h.h2⟩
end
theorem laidOver_app {B X:List Int} {o p n:Nat} (ho:o+n<=B.length) (hp:p+n<=B.length):laidOver (B++X) o (B++X) p n=laidOver B o B p n++X:=by
 unfold laidOver
 rw[List.take_append_of_le_length (by omega),List.drop_append_of_le_length (by omega),List.drop_append_of_le_length (by omega),List.take_append_of_le_length (by simp;omega)]
 simp
theorem over_lo {B:List Int} {st en i:Nat} (h1:st<=en) (h2:en<=B.length) (hi:i<=st) :
  (laidOver B (i+(en - st)) B i (st - i)).take i++(laidOver B (i+(en - st)) B i (st - i)).drop (i+(en - st))=B.take st++B.drop en:=by
 unfold laidOver
 have e1:(B.take (i+(en - st))).length=i+(en - st):=by simp;omega
 rw[List.append_assoc,List.take_append_of_le_length (by omega),List.take_take,Nat.min_eq_left (by omega)]
 rw[List.drop_append_of_le_length (by omega),show i+(en - st)+(st - i)=en by omega]
 rw[List.drop_eq_nil_of_le (by omega),List.nil_append,<-List.append_assoc]
 congr 1
 have:=(List.take_append_drop i (B.take st))
 rw[List.take_take,Nat.min_eq_left hi,List.drop_take] at this
 exact this
theorem over_hi {B:List Int} {st en i:Nat} (h1:st<=en) (h2:en<=B.length) (hi:st<=i) (h3:i+(en - st)<=B.length) :
  (laidOver B st B en (i - st)).take i++(laidOver B st B en (i - st)).drop (i+(en - st))=B.take st++B.drop en:=by
 unfold laidOver
 have e1:(B.take st).length=st:=by simp;omega
 have e2:((B.drop en).take (i - st)).length=i - st:=by simp;omega
 have e3:(B.take st++(B.drop en).take (i - st)).length=i:=by rw[List.length_append,e1,e2];omega
 rw[List.take_append_of_le_length (by omega),List.take_of_length_le (by omega)]
 have e4:List.drop (i+(en - st)) (B.take st++(B.drop en).take (i - st)++B.drop (st+(i - st)))=B.drop (i+(en - st)):=by
  rw[List.drop_append,List.drop_eq_nil_of_le (by omega),List.nil_append,e3,List.drop_drop];congr 1;omega
 rw[e4,List.append_assoc]
 congr 1
 have:=List.take_append_drop (i - st) (B.drop en)
 rw[List.drop_drop,show en+(i - st)=i+(en - st) by omega] at this
 exact this
set_option maxHeartbeats 2000000 in
theorem gmove_lo {B:List Int} {st en i:Nat} {fv:Value} (h0:GapW w t g B st en fv) (hi:i<st) :
  Calls Tryz.prog 220 #[.pointer (some ⟨t,0,none⟩),.int .i64 i] w fun e w'=>e=.returned (.tuple #[])/\Only (fun k=>k=t\/k=g) w w'/\GapW w' t g (laidOver B (i+(en - st)) B i (st - i)) i (i+(en - st)) fv/\w'.heap.size=w.heap.size:=by
 obtain⟨Xt,h⟩:=h0
 obtain⟨cp,hcp0⟩:∃ c,c=B.length+Xt.length:=⟨_,rfl⟩
 have c0:w.cell? ⟨t,0,none⟩=some (.slice (some ⟨g,0,none⟩) B.length cp):=by rw[hcp0];exact h.blk.cell (j:=0) rfl
 have c1:w.cell? ⟨t,1,none⟩=some (.int .i64 st):=h.blk.cell (j:=1) rfl
 have c2:w.cell? ⟨t,2,none⟩=some (.int .i64 en):=h.blk.cell (j:=2) rfl
 have f1:=h.blk.fz 1
 have f2:=h.blk.fz 2
 have q1:=h.h1
 have q2:=h.h2
 have q3:=h.lim
 obtain⟨E,hE⟩:∃ E,E=i+(en - st):=⟨_,rfl⟩
 rw[<-hE]
 obtain⟨G,hG⟩:∃ G,G=en - st:=⟨_,rfl⟩
 have s1:IntKind.i64.wrap ((en:Int) - st)=(G:Int):=by rw[IntWalk.i64_in _ (by omega)];omega
 have s2:IntKind.i64.wrap ((i:Int)+(G:Int))=(E:Int):=by rw[IntWalk.i64_in _ (by omega)];omega
 have d1:(i<st)=True:=eq_true hi
 have e1:E<=en:=by omega
 have e2:(cp=E)=False:=eq_false (by omega)
 have e3:(cp=i)=False:=eq_false (by omega)
 obtain⟨w1,hcp,ho1,hb1,hz1⟩:=copy_over (w:=w.drew.drew) (gd:=g) (gs:=g) (o:=E) (p:=i) (n:=st - i) (dl:=en - E) (dc:=cp - E) (sl:=st - i) (sc:=cp - i) h.buf h.buf (by simp;omega) (by simp;omega) (by show min (st - i) (en - E)=st - i;omega)
 have ht1:Blk w1 t 184 _:=h.blk.kept (ho1.block t h.blk.lt h.tg)
 have k0:w1.cell? ⟨t,0,none⟩=some (.slice (some ⟨g,0,none⟩) B.length cp):=by rw[hcp0];exact ht1.cell (j:=0) rfl
 have k1:w1.cell? ⟨t,1,none⟩=some (.int .i64 st):=ht1.cell (j:=1) rfl
 have k2:w1.cell? ⟨t,2,none⟩=some (.int .i64 en):=ht1.cell (j:=2) rfl
 have f3:=ht1.fz 1
 have f4:=ht1.fz 2
 have HT1:=qH ht1
 rw[laidOver_app (by omega) (by omega)] at hb1
 have HB1:=qH hb1
 have HO1:=qH ho1
 have HZ1:=qH hz1
 have htg:=h.tg
 have HTG:=qH htg
 clear ht1 hb1 ho1 hz1 htg
 have hcp1:=fun ty=>hcp ty (some ⟨g,E,none⟩) (some ⟨g,i,none⟩) (fun _=>⟨rfl,rfl⟩)
 have e4:st<=B.length:=by omega
 have g1:st<=cp:=by omega
 have g2:en<=cp:=by omega
 have g3:i<=cp:=by omega
 have g4:E<=cp:=by omega
 have HE:=qH (⟨hE,hG,q1,q2,q3,hi⟩:_/\_/\_/\_/\_/\_)
 have e5:i<=st:=by omega
 clear h hE hG q1 q3 hi hcp hcp0
 go_enter Tryz.func220,Tryz.ntmps220
 go_wp2_with fail
 go_region
 go_wp2_with fail
 go_region
 go_wp2_with fail
 go_end0
 have hfin:=((HT1.out.set (j:=1) (by simp) (.int .i64 i)).set (j:=2) (by simp) (.int .i64 E))
 have hon:Only (fun k=>k=t\/k=g) w _:=(((((Only.refl (fun k=>k=t\/k=g) w).drew.drew).trans (HO1.out.mono (T:=fun k=>k=t\/k=g) (fun k hk=>.inr hk))).setCell (p:=⟨t,1,none⟩) (.inl rfl) (.int .i64 i)).setCell (p:=⟨t,2,none⟩) (.inl rfl) (.int .i64 E))
 obtain⟨hE,hG,q1,q2,q3,hi⟩:=HE.out
 refine⟨rfl,hon,⟨Xt,?_,?_,HTG.out,?_,by omega,?_⟩,?_⟩
 ·rw[laidOver_len (by omega) (by omega)];exact hfin
 ·refine Blk.kept HB1.out ?_
  rw[Below.heap_setCell _ _ _ _ (fun e=>HTG.out e.symm),Below.heap_setCell _ _ _ _ (fun e=>HTG.out e.symm)]
 ·rw[laidOver_len (by omega) (by omega)];exact q3
 ·rw[laidOver_len (by omega) (by omega)];omega
 ·simp[HZ1.out]
set_option maxHeartbeats 2000000 in
theorem gmove_eq {B:List Int} {st en i:Nat} {fv:Value} (h0:GapW w t g B st en fv) (hi:i=st) :
  Calls Tryz.prog 220 #[.pointer (some ⟨t,0,none⟩),.int .i64 i] w fun e w'=>e=.returned (.tuple #[])/\Only (fun k=>k=t\/k=g) w w'/\GapW w' t g (laidOver B st B en (i - st)) i (i+(en - st)) fv/\w'.heap.size=w.heap.size:=by
 obtain⟨Xt,h⟩:=h0
 obtain⟨cp,hcp0⟩:∃ c,c=B.length+Xt.length:=⟨_,rfl⟩
 have c0:w.cell? ⟨t,0,none⟩=some (.slice (some ⟨g,0,none⟩) B.length cp):=by rw[hcp0];exact h.blk.cell (j:=0) rfl
 have c1:w.cell? ⟨t,1,none⟩=some (.int .i64 st):=h.blk.cell (j:=1) rfl
 have c2:w.cell? ⟨t,2,none⟩=some (.int .i64 en):=h.blk.cell (j:=2) rfl
 have f1:=h.blk.fz 1
 have f2:=h.blk.fz 2
 have q1:=h.h1
 have q2:=h.h2
 have q3:=h.lim
 obtain⟨E,hE⟩:∃ E,E=i+(en - st):=⟨_,rfl⟩
 rw[<-hE]
 obtain⟨G,hG⟩:∃ G,G=en - st:=⟨_,rfl⟩
 have s1:IntKind.i64.wrap ((en:Int) - st)=(G:Int):=by rw[IntWalk.i64_in _ (by omega)];omega
 have s2:IntKind.i64.wrap ((i:Int)+(G:Int))=(E:Int):=by rw[IntWalk.i64_in _ (by omega)];omega
 have d1:(i<st)=False:=eq_false (by omega)
 have e1:st<=i:=by omega
 have e6:i<=B.length:=by omega
 have e7:en<=E:=by omega
 have e8:E<=B.length:=by omega
 obtain⟨w1,hcp,ho1,hb1,hz1⟩:=copy_over (w:=w.drew.drew) (gd:=g) (gs:=g) (o:=st) (p:=en) (n:=i - st) (dl:=i - st) (dc:=cp - st) (sl:=E - en) (sc:=cp - en) h.buf h.buf (by simp;omega) (by simp;omega) (by show min (E - en) (i - st)=i - st;omega)
 have ht1:Blk w1 t 184 _:=h.blk.kept (ho1.block t h.blk.lt h.tg)
 have k0:w1.cell? ⟨t,0,none⟩=some (.slice (some ⟨g,0,none⟩) B.length cp):=by rw[hcp0];exact ht1.cell (j:=0) rfl
 have k1:w1.cell? ⟨t,1,none⟩=some (.int .i64 st):=ht1.cell (j:=1) rfl
 have k2:w1.cell? ⟨t,2,none⟩=some (.int .i64 en):=ht1.cell (j:=2) rfl
 have f3:=ht1.fz 1
 have f4:=ht1.fz 2
 have HT1:=qH ht1
 rw[laidOver_app (by omega) (by omega)] at hb1
 have HB1:=qH hb1
 have HO1:=qH ho1
 have HZ1:=qH hz1
 have htg:=h.tg
 have HTG:=qH htg
 clear ht1 hb1 ho1 hz1 htg
 have hcp1:=fun ty ad az=>hcp ty ad az (fun h0=>by omega)
 have e4:st<=B.length:=by omega
 have g1:st<=cp:=by omega
 have g2:en<=cp:=by omega
 have g3:i<=cp:=by omega
 have g4:E<=cp:=by omega
 have HE:=qH (⟨hE,hG,q1,q2,q3,hi⟩:_/\_/\_/\_/\_/\_)
 clear h hE hG q1 q3 hi hcp hcp0
 obtain⟨x1,hx1⟩:∃ x:Bool,(cp=st)=(x=true):=⟨decide (cp=st),by simp⟩
 obtain⟨x2,hx2⟩:∃ x:Bool,(cp=en)=(x=true):=⟨decide (cp=en),by simp⟩
 cases x1<;>cases x2
 all_goals
  simp only[Bool.false_eq_true,eq_self_iff_true] at hx1 hx2
  go_enter Tryz.func220,Tryz.ntmps220
  go_wp2_with fail
  go_region
  go_wp2_with fail
  go_region
  go_wp2_with fail
  go_end0
  have hfin:=((HT1.out.set (j:=1) (by simp) (.int .i64 i)).set (j:=2) (by simp) (.int .i64 E))
  have hon:Only (fun k=>k=t\/k=g) w _:=(((((Only.refl (fun k=>k=t\/k=g) w).drew.drew).trans (HO1.out.mono (T:=fun k=>k=t\/k=g) (fun k hk=>.inr hk))).setCell (p:=⟨t,1,none⟩) (.inl rfl) (.int .i64 i)).setCell (p:=⟨t,2,none⟩) (.inl rfl) (.int .i64 E))
  obtain⟨hE,hG,q1,q2,q3,hi⟩:=HE.out
  refine⟨rfl,hon,⟨Xt,?_,?_,HTG.out,?_,by omega,?_⟩,?_⟩
  ·rw[laidOver_len (by omega) (by omega)];exact hfin
  ·refine Blk.kept HB1.out ?_
   rw[Below.heap_setCell _ _ _ _ (fun e=>HTG.out e.symm),Below.heap_setCell _ _ _ _ (fun e=>HTG.out e.symm)]
  ·rw[laidOver_len (by omega) (by omega)];exact q3
  ·rw[laidOver_len (by omega) (by omega)];omega
  ·simp[HZ1.out]
set_option maxHeartbeats 2000000 in
theorem gmove_hi {B:List Int} {st en i:Nat} {fv:Value} (h0:GapW w t g B st en fv) (hi:st<i/\i+(en - st)<=B.length) :
  Calls Tryz.prog 220 #[.pointer (some ⟨t,0,none⟩),.int .i64 i] w fun e w'=>e=.returned (.tuple #[])/\Only (fun k=>k=t\/k=g) w w'/\GapW w' t g (laidOver B st B en (i - st)) i (i+(en - st)) fv/\w'.heap.size=w.heap.size:=by
 obtain⟨Xt,h⟩:=h0
 obtain⟨cp,hcp0⟩:∃ c,c=B.length+Xt.length:=⟨_,rfl⟩
 have c0:w.cell? ⟨t,0,none⟩=some (.slice (some ⟨g,0,none⟩) B.length cp):=by rw[hcp0];exact h.blk.cell (j:=0) rfl
 have c1:w.cell? ⟨t,1,none⟩=some (.int .i64 st):=h.blk.cell (j:=1) rfl
 have c2:w.cell? ⟨t,2,none⟩=some (.int .i64 en):=h.blk.cell (j:=2) rfl
 have f1:=h.blk.fz 1
 have f2:=h.blk.fz 2
 have q1:=h.h1
 have q2:=h.h2
 have q3:=h.lim
 obtain⟨E,hE⟩:∃ E,E=i+(en - st):=⟨_,rfl⟩
 rw[<-hE]
 obtain⟨G,hG⟩:∃ G,G=en - st:=⟨_,rfl⟩
 have s1:IntKind.i64.wrap ((en:Int) - st)=(G:Int):=by rw[IntWalk.i64_in _ (by omega)];omega
 have s2:IntKind.i64.wrap ((i:Int)+(G:Int))=(E:Int):=by rw[IntWalk.i64_in _ (by omega)];omega
 have d1:(i<st)=False:=eq_false (by omega)
 have e1:st<=i:=by omega
 have e2:(cp=en)=False:=eq_false (by omega)
 have e3:(cp=st)=False:=eq_false (by omega)
 have e6:i<=B.length:=by omega
 have e7:en<=E:=by omega
 have e8:E<=B.length:=by omega
 obtain⟨w1,hcp,ho1,hb1,hz1⟩:=copy_over (w:=w.drew.drew) (gd:=g) (gs:=g) (o:=st) (p:=en) (n:=i - st) (dl:=i - st) (dc:=cp - st) (sl:=E - en) (sc:=cp - en) h.buf h.buf (by simp;omega) (by simp;omega) (by show min (E - en) (i - st)=i - st;omega)
 have ht1:Blk w1 t 184 _:=h.blk.kept (ho1.block t h.blk.lt h.tg)
 have k0:w1.cell? ⟨t,0,none⟩=some (.slice (some ⟨g,0,none⟩) B.length cp):=by rw[hcp0];exact ht1.cell (j:=0) rfl
 have k1:w1.cell? ⟨t,1,none⟩=some (.int .i64 st):=ht1.cell (j:=1) rfl
 have k2:w1.cell? ⟨t,2,none⟩=some (.int .i64 en):=ht1.cell (j:=2) rfl
 have f3:=ht1.fz 1
 have f4:=ht1.fz 2
 have HT1:=qH ht1
 rw[laidOver_app (by omega) (by omega)] at hb1
 have HB1:=qH hb1
 have HO1:=qH ho1
 have HZ1:=qH hz1
 have htg:=h.tg
 have HTG:=qH htg
 clear ht1 hb1 ho1 hz1 htg
 have hcp1:=fun ty=>hcp ty (some ⟨g,st,none⟩) (some ⟨g,en,none⟩) (fun _=>⟨rfl,rfl⟩)
 have e4:st<=B.length:=by omega
 have g1:st<=cp:=by omega
 have g2:en<=cp:=by omega
 have g3:i<=cp:=by omega
 have g4:E<=cp:=by omega
 have HE:=qH (⟨hE,hG,q1,q2,q3,hi⟩:_/\_/\_/\_/\_/\_)
 clear h hE hG q1 q3 hi hcp hcp0
 go_enter Tryz.func220,Tryz.ntmps220
 go_wp2_with fail
 go_region
 go_wp2_with fail
 go_region
 go_wp2_with fail
 go_end0
 have hfin:=((HT1.out.set (j:=1) (by simp) (.int .i64 i)).set (j:=2) (by simp) (.int .i64 E))
 have hon:Only (fun k=>k=t\/k=g) w _:=(((((Only.refl (fun k=>k=t\/k=g) w).drew.drew).trans (HO1.out.mono (T:=fun k=>k=t\/k=g) (fun k hk=>.inr hk))).setCell (p:=⟨t,1,none⟩) (.inl rfl) (.int .i64 i)).setCell (p:=⟨t,2,none⟩) (.inl rfl) (.int .i64 E))
 obtain⟨hE,hG,q1,q2,q3,hi⟩:=HE.out
 refine⟨rfl,hon,⟨Xt,?_,?_,HTG.out,?_,by omega,?_⟩,?_⟩
 ·rw[laidOver_len (by omega) (by omega)];exact hfin
 ·refine Blk.kept HB1.out ?_
  rw[Below.heap_setCell _ _ _ _ (fun e=>HTG.out e.symm),Below.heap_setCell _ _ _ _ (fun e=>HTG.out e.symm)]
 ·rw[laidOver_len (by omega) (by omega)];exact q3
 ·rw[laidOver_len (by omega) (by omega)];omega
 ·simp[HZ1.out]
theorem gmove_ok {B:List Int} {st en i:Nat} {fv:Value} (h:GapW w t g B st en fv) (hi:i+(en - st)<=B.length) :
  Calls Tryz.prog 220 #[.pointer (some ⟨t,0,none⟩),.int .i64 i] w fun e w'=>e=.returned (.tuple #[])/\Only (fun k=>k=t\/k=g) w w'/\w'.heap.size=w.heap.size /\
   ∃ B',GapW w' t g B' i (i+(en - st)) fv/\B'.length=B.length/\B'.take i++B'.drop (i+(en - st))=B.take st++B.drop en:=by
 have q1:=h.h1
 have q2:=h.h2
 rcases Nat.lt_trichotomy i st with h0|h0|h0
 ·exact(gmove_lo h h0).mono fun e w' ⟨he,ho,hg,hz⟩=>⟨he,ho,hz,_,hg,laidOver_len (by omega) (by omega),over_lo q1 q2 (by omega)⟩
 ·exact(gmove_eq h h0).mono fun e w' ⟨he,ho,hg,hz⟩=>⟨he,ho,hz,_,hg,laidOver_len (by omega) (by omega),over_hi q1 q2 (by omega) hi⟩
 ·exact(gmove_hi h ⟨h0,hi⟩).mono fun e w' ⟨he,ho,hg,hz⟩=>⟨he,ho,hz,_,hg,laidOver_len (by omega) (by omega),over_hi q1 q2 (by omega) hi⟩
end
end Go.Proofs.YtkpoodjhjfmfjaaGreatDoor
namespace Go.Proofs.YtkpoodjhjfmfjaaGreatDoor
open Go.RowKit Go.Lib
section
variable {w w' : World} {t g : Nat}
set_option maxHeartbeats 1000000 in
theorem ggrow_no {B:List Int} {st en n:Nat} {fv:Value} (h:GapW w t g B st en fv) (hn:n<=en - st) :
  Calls Tryz.prog 237 #[.pointer (some ⟨t,0,none⟩),.int .i64 n] w fun e w'=>e=.returned (.tuple #[])/\Below w.heap.size w w':=by
 have c1:=h.c1
 have c2:=h.c2
 have q1:=h.h1
 have q2:=h.h2
 have q3:=h.lim
 obtain⟨G,hG⟩:∃ G,G=en - st:=⟨_,rfl⟩
 have s1:IntKind.i64.wrap ((en:Int) - st)=(G:Int):=by rw[IntWalk.i64_in _ (by omega)];omega
 have d1:(n<=G)=True:=eq_true (by omega)
 clear h hG q1 q2 q3 hn
 go_enter Tryz.func237,Tryz.ntmps237
 go_wp2_with fail
 go_region
 go_wp2_with fail
 refine bodyPost_ret (results_none rfl _ _ _) rfl ?_
 exact⟨rfl,(Below.refl _ _).drew⟩
def GrowP (t:Nat) (B:List Int) (st en n:Nat) (fv:Value) (w w':World):Prop:=Only (fun k=>k=t) w w'/\∃ g' B' en',w.heap.size<=g'/\GapW w' t g' B' st en' fv/\n<=en' - st/\B'.take st=B.take st/\B'.drop en'=B.drop en
theorem laidOver_src {D B X:List Int} {o p n:Nat} (hp:p+n<=B.length):laidOver D o (B++X) p n=laidOver D o B p n:=by
 unfold laidOver
 rw[List.drop_append_of_le_length (by omega),List.take_append_of_le_length (by simp;omega)]
set_option maxRecDepth 100000 in
set_option maxHeartbeats 2000000 in
theorem ggrow_yes {B:List Int} {st en n:Nat} {fv:Value} (h0:GapW w t g B st en fv) (hn:en - st<n) (hn2:n<=65536) (hsz:B.length -(en - st)+n<=65536) :
  Calls Tryz.prog 237 #[.pointer (some ⟨t,0,none⟩),.int .i64 n] w fun e w'=>e=.returned (.tuple #[])/\GrowP t B st en n fv w w':=by
 obtain⟨Xt,h⟩:=h0
 obtain⟨cp,hcp0⟩:∃ c,c=B.length+Xt.length:=⟨_,rfl⟩
 have c0:w.cell? ⟨t,0,none⟩=some (.slice (some ⟨g,0,none⟩) B.length cp):=by rw[hcp0];exact h.blk.cell (j:=0) rfl
 have c1:w.cell? ⟨t,1,none⟩=some (.int .i64 st):=h.blk.cell (j:=1) rfl
 have c2:w.cell? ⟨t,2,none⟩=some (.int .i64 en):=h.blk.cell (j:=2) rfl
 have q1:=h.h1
 have q2:=h.h2
 have q3:=h.lim
 obtain⟨L,hL⟩:∃ L,L=B.length:=⟨_,rfl⟩
 rw[<-hL] at c0 hsz q2 q3
 obtain⟨G,hG⟩:∃ G,G=en - st:=⟨_,rfl⟩
 obtain⟨H2,hH2⟩:∃ H2,H2=L / 2:=⟨_,rfl⟩
 obtain⟨M1,hM1⟩:∃ M1,M1=n - G:=⟨_,rfl⟩
 obtain⟨M2,hM2⟩:∃ M2,M2=M1+H2:=⟨_,rfl⟩
 obtain⟨M,hM⟩:∃ M,M=M2+16:=⟨_,rfl⟩
 obtain⟨T,hT⟩:∃ T,T=L+M:=⟨_,rfl⟩
 obtain⟨E,hE⟩:∃ E,E=en+M:=⟨_,rfl⟩
 have s1:IntKind.i64.wrap ((en:Int) - st)=(G:Int):=by rw[IntWalk.i64_in _ (by omega)];omega
 have s2:IntKind.i64.wrap ((n:Int) - G)=(M1:Int):=by rw[IntWalk.i64_in _ (by omega)];omega
 have s3:IntKind.i64.wrap ((L:Int) / 2)=(H2:Int):=by rw[IntWalk.i64_in _ (by omega)];omega
 have s4:IntKind.i64.wrap ((M1:Int)+H2)=(M2:Int):=by rw[IntWalk.i64_in _ (by omega)];omega
 have s5:IntKind.i64.wrap ((M2:Int)+16)=(M:Int):=by rw[IntWalk.i64_in _ (by omega)];omega
 have s6:IntKind.i64.wrap ((L:Int)+M)=(T:Int):=by rw[IntWalk.i64_in _ (by omega)];omega
 have s7:IntKind.i64.wrap ((en:Int)+M)=(E:Int):=by rw[IntWalk.i64_in _ (by omega)];omega
 have d1:(n<=G)=False:=eq_false (by omega)
 have hmk:∀ w:World,(Instr.makeSlice 182 (.int .i64 (T:Int)) (.int .i64 (T:Int))).run Tryz.prog w=.ok (.slice (some ⟨w.heap.size,0,none⟩) T T) (w.alloc (.cells (rowR (List.replicate T 0)) 21)):=fun w=>by
  obtain⟨i,hi,hsz,hby,hz⟩:∃ i,Tryz.prog.info? 21=some i/\i.size=1/\i.bytes=4/\i.zero=some (.int .i32 0):=⟨(Tryz.prog.info? 21).get (by kernel_rfl),(Option.some_get _).symm,by kernel_rfl,by kernel_rfl,by kernel_rfl⟩
  have hr:=run_makeSlice (P:=Tryz.prog) (w:=w) 182 21 i (.int .i32 0) Tryz.underlying182 hi hz .i64 .i64 (T:Int) (T:Int) (by omega) (by omega) (by rw[hsz];omega) (by rw[hby];omega) (by omega)
  rw[hr,hsz]
  have e2:madeCells (Value.int .i32 0).cells (T*1)=rowR (List.replicate T 0):=by
   rw[Nat.mul_one]
   apply Array.ext
   ·simp[madeCells]
   ·intro j h1 h2
    simp[madeCells,Value.cells,Nat.mod_one]
  rw[Int.toNat_natCast,e2]
 have b1:st<=L:=by omega
 have b3:L<=cp:=by omega
 have b4:st<=cp:=by omega
 have b5:en<=cp:=by omega
 have b2:E<=T:=by omega
 have ht:=h.blk.lt
 have hg:=h.buf.lt
 have hA:=below1 w (.cells (rowR (List.replicate T 0)) 21)
 have hN:Blk (w.alloc (.cells (rowR (List.replicate T 0)) 21)) w.heap.size 21 (rowR (List.replicate T 0)):=Blk.made w _ _
 obtain⟨w1,hcp,ho1,hn1,hz1⟩:=copy_over (w:=(w.alloc (.cells (rowR (List.replicate T 0)) 21)).drew.drew) (gd:=w.heap.size) (gs:=g) (o:=0) (p:=0) (n:=st) (dl:=T) (dc:=T) (sl:=st) (sc:=cp) (D:=List.replicate T 0) (S:=B++Xt) hN ((h.buf.up hA:Blk _ _ _ _):Blk (w.alloc (.cells (rowR (List.replicate T 0)) 21)).drew.drew g 21 (rowR (B++Xt))) (by simp;omega) (by simp;omega) (by show min st T=st;omega)
 rw[laidOver_src (by omega)] at hn1
 have hcp1:=fun ty=>hcp ty (some ⟨w.heap.size,0,none⟩) (some ⟨g,0,none⟩) (fun _=>⟨rfl,rfl⟩)
 have hl1:(laidOver (List.replicate T 0) 0 B 0 st).length=T:=by rw[laidOver_len (by simp;omega) (by omega)];simp
 have g1:Blk w1 g 21 (rowR (B++Xt)):=(h.buf.up hA).kept (ho1.block g (by simp;omega) (by show ¬ g=w.heap.size;omega))
 have t1:Blk w1 t 184 _:=(h.blk.up hA).kept (ho1.block t (by simp;omega) (by show ¬ t=w.heap.size;omega))
 obtain⟨w2,hcp2,ho2,hn2',hz2⟩:=copy_over (w:=w1.drew) (gd:=w.heap.size) (gs:=g) (o:=E) (p:=en) (n:=L - en) (dl:=T - E) (dc:=T - E) (sl:=L - en) (sc:=cp - en) hn1 g1 (by omega) (by simp;omega) (by show min (L - en) (T - E)=L - en;omega)
 rw[laidOver_src (by omega)] at hn2'
 have t2:Blk w2 t 184 _:=t1.kept (ho2.block t (by simp[hz1];omega) (by show ¬ t=w.heap.size;omega))
 have hcp3:∀ ty,((Builtin.copy_ #[182,182] ty #[.slice (if T=E then some ⟨w.heap.size,0,none⟩ else some ⟨w.heap.size,E,none⟩) (T - E) (T - E),.slice (if cp=en then some ⟨g,0,none⟩ else some ⟨g,en,none⟩) (L - en) (cp - en)]).run Tryz.prog w1.drew=.ok (goInt ((L - en:Nat):Int)) w2):=fun ty=>hcp2 ty _ _ (fun h0=>⟨if_neg (by omega),if_neg (by omega)⟩)
 have k0:w1.cell? ⟨t,0,none⟩=some (.slice (some ⟨g,0,none⟩) L cp):=by rw[hL,hcp0];exact t1.cell (j:=0) rfl
 have k1:w1.cell? ⟨t,1,none⟩=some (.int .i64 st):=t1.cell (j:=1) rfl
 have k2:w1.cell? ⟨t,2,none⟩=some (.int .i64 en):=t1.cell (j:=2) rfl
 have m0:w2.cell? ⟨t,0,none⟩=some (.slice (some ⟨g,0,none⟩) L cp):=by rw[hL,hcp0];exact t2.cell (j:=0) rfl
 have m1:w2.cell? ⟨t,1,none⟩=some (.int .i64 st):=t2.cell (j:=1) rfl
 have m2:w2.cell? ⟨t,2,none⟩=some (.int .i64 en):=t2.cell (j:=2) rfl
 have f0:=t2.fz 0
 have f2:=t2.fz 2
 have hfin:=((t2.set (j:=0) (by simp) (.slice (some ⟨w.heap.size,0,none⟩) T T)).set (j:=2) (by simp) (.int .i64 E))
 have hon:Only (fun k=>k=t) w ((w2.setCell ⟨t,0,none⟩ (.slice (some ⟨w.heap.size,0,none⟩) T T)).setCell ⟨t,2,none⟩ (.int .i64 E)):=
  (((((((Only.refl (fun k=>k=t) w).alloc _).drew.drew).then ho1 (fun k hk hlt=>by omega)).drew).then ho2 (fun k hk hlt=>by omega)).setCell (p:=⟨t,0,none⟩) rfl _).setCell (p:=⟨t,2,none⟩) rfl _
 have hB2:(laidOver (laidOver (List.replicate T 0) 0 B 0 st) E B en (L - en)).length=T:=by rw[laidOver_len (by omega) (by omega)];exact hl1
 have htk:(laidOver (laidOver (List.replicate T 0) 0 B 0 st) E B en (L - en)).take st=B.take st:=by
  unfold laidOver
  have e1:(B.take st).length=st:=by simp;omega
  rw[List.append_assoc,List.take_append_of_le_length (by simp;omega),List.take_take,Nat.min_eq_left (by omega)]
  simp only[List.take_zero,List.nil_append,List.drop_zero]
  rw[List.take_append_of_le_length (by omega),List.take_take,Nat.min_self]
 have hdr:(laidOver (laidOver (List.replicate T 0) 0 B 0 st) E B en (L - en)).drop E=B.drop en:=by
  have e0:(laidOver (List.replicate T 0) 0 B 0 st).take E=(laidOver (List.replicate T 0) 0 B 0 st).take E:=rfl
  generalize laidOver (List.replicate T 0) 0 B 0 st=D at *
  unfold laidOver
  have e1:(D.take E).length=E:=by simp;omega
  rw[List.append_assoc,List.drop_append,List.drop_eq_nil_of_le (by omega),List.nil_append,e1,Nat.sub_self,List.drop_zero,List.take_of_length_le (by simp;omega),show E+(L - en)=D.length by omega,List.drop_length,List.append_nil]
 have HF:Hid (GrowP t B st en n fv w ((w2.setCell ⟨t,0,none⟩ (.slice (some ⟨w.heap.size,0,none⟩) T T)).setCell ⟨t,2,none⟩ (.int .i64 E))):=Lib.hid
  ⟨hon,w.heap.size,_,E,Nat.le_refl _,⟨[],by rw[hB2];exact hfin,by rw[List.append_nil];exact hn2'.kept (by rw[Below.heap_setCell _ _ _ _ (fun e=>by simp at e;omega),Below.heap_setCell _ _ _ _ (fun e=>by simp at e;omega)]),by omega,by rw[hB2];omega,by omega,by rw[hB2];omega⟩,by omega,htk,hdr⟩
 have AA:=qH (⟨hL,hG,hH2,hM1,hM2,hM,hT,hE,q1,q3,hn,hn2,hsz⟩:_/\_/\_/\_/\_/\_/\_/\_/\_/\_/\_/\_/\_)
 have H:=qH h
 clear hcp0 h hL hG hH2 hM1 hM2 hM hT hE q1 q3 hn hn2 hsz hA hN hcp hl1 g1 t1 hn1 ho1 hz1 ho2 hn2' hz2 t2 hcp2 hg hfin hon hB2 htk hdr
 go_enter Tryz.func237,Tryz.ntmps237
 go_wp2_with fail
 go_region
 go_wp2_with fail
 go_region
 go_wp2_with fail
 go_region
 go_wp2_with fail
 all_goals
  go_end0
  exact⟨rfl,by first|exact HF.out|(have hTE:T=E:=(by assumption);have q:=HF.out;rw[hTE] at q;exact q)⟩
end
end Go.Proofs.YtkpoodjhjfmfjaaGreatDoor
namespace Go.Proofs.YtkpoodjhjfmfjaaGreatDoor
open Go.RowKit Go.Lib
section
variable {w w' : World}
abbrev encZ (z:Int):Value:=.int .i64 z
theorem cellsZ (xs:List Int):cellsL encI xs=xs.map encZ:=by
 induction xs with
 | nil=>rfl
 | cons x xs ih=>rw[cellsL_cons,ih];rfl
theorem own_open {D:Nat} {v:Value} {xs:List Int} (h:ROwn encI 3 1 D w v xs) :
  (v=.slice none 0 0/\xs=[])\/∃ g cap cl,v=.slice (some ⟨g,0,none⟩) xs.length cap/\D<=g/\w.heap[g]?=some (.cells (List.toArray cl) 3 (0,0))/\xs.length<=cap/\cap<=maxLen/\cl.length=cap/\cl.take xs.length=xs.map encZ:=by
 obtain⟨_,h⟩:=h
 rcases h with ⟨rfl,h0⟩|⟨g,cap,cur,rfl,hB,hb,hl,hm,hs,ht⟩
 ·exact .inl ⟨rfl,List.eq_nil_of_length_eq_zero h0⟩
 ·rw[cellsZ,Nat.mul_one] at ht
  exact .inr ⟨g,cap,cur.toList,rfl,hB,by simpa using hb,hl,hm,by simpa using hs,ht⟩
theorem own_mk {D g cap:Nat} {cl:List Value} {xs:List Int} (hB:D<=g) (hb:w.heap[g]?=some (.cells (List.toArray cl) 3 (0,0))) (hl:xs.length<=cap) (hm:cap<=maxLen) (hs:cl.length=cap) (ht:cl.take xs.length=xs.map encZ) :
  ROwn encI 3 1 D w (.slice (some ⟨g,0,none⟩) xs.length cap) xs:=
 ⟨by rw[cellsZ];simp,.inr ⟨g,cap,_,rfl,hB,hb,hl,hm,by simpa using hs,by rw[cellsZ,Nat.mul_one];exact ht⟩⟩
theorem cell_list {g:Nat} {E:TypeId} {cl:List Value} (hb:w.heap[g]?=some (.cells cl.toArray E (0,0))) (j:Nat):w.cell? ⟨g,j,none⟩=cl[j]?:=by simp[World.cell?,hb]
theorem froz_list {g:Nat} {E:TypeId} {cl:List Value} (hb:w.heap[g]?=some (.cells cl.toArray E (0,0))) (j:Nat):w.frozen? ⟨g,j,none⟩=false:=by simp[World.frozen?,hb]
theorem shape_list {g:Nat} {E:TypeId} {cl:List Value} (hb:w.heap[g]?=some (.cells cl.toArray E (0,0))):w.shape? g=some (E,cl.length):=by simp[World.shape?,hb]
theorem int_one (xs:List Int):∀ v ∈ xs.map encZ,v.oneCell'=true:=fun v hv=>by obtain⟨z,_,rfl⟩:=List.mem_map.1 hv;rfl
theorem take_of_take {cl:List Value} {n i:Nat} {vs:List Value} (h:cl.take n=vs) (hi:i<=n):cl.take i=vs.take i:=by rw[<-h,List.take_take,Nat.min_eq_left hi]
theorem get_of_take {cl:List Value} {n:Nat} {vs:List Value} (h:cl.take n=vs) {j:Nat} {v:Value} (hj:vs[j]?=some v):cl[j]?=some v:=by
 rw[<-h,List.getElem?_take] at hj
 split at hj
 ·exact hj
 ·cases hj
set_option maxHeartbeats 1000000 in
theorem sinsert_none (v:Value) (A A':Option Addr) (n c i c':Nat) (hi:i<=n) (hn:n<=1000000000) (hv:v=.slice A n c) :
  Calls Tryz.prog 238 #[v,.int .i64 i,.slice A' 0 c'] w fun e w'=>e=.returned v/\w=w':=by
 subst hv
 go_enter Tryz.func238,Tryz.ntmps238
 go_wp2_with fail
 all_goals
  go_ret
  exact⟨rfl,rfl⟩
def InsP (w:World) (D:Nat) (v:Value) (zs:List Int) (e:Ending) (w':World):Prop:=
 ∃ v',e=.returned v'/\ROwn encI 3 1 D w' v' zs/\Only (fun k=>v.ownBlock=some k) w w'/\∀ k,v'.ownBlock=some k->v.ownBlock=some k\/w.heap.size<=k
theorem zeroC (n:Nat):(Builtin.zeroCells (Value.int .i64 0).cells n).toList=List.replicate n (encZ 0):=by
 apply List.ext_getElem
 ·simp[Builtin.zeroCells,Value.cells]
 ·intro j h1 h2
  simp[Builtin.zeroCells,Value.cells,Nat.mod_one]
theorem get_len {l:List Value} {n:Nat} (hl:l.length=n) {j:Nat} (hj:j<n):(l[j]?).isSome=true:=by rw[List.getElem?_eq_getElem (by omega)];rfl
set_option maxHeartbeats 1000000 in
theorem sinsert_own {D D' i:Nat} {v u:Value} {xs ys:List Int} (hv:ROwn encI 3 1 D w v xs) (hu:ROwn encI 3 1 D' w u ys) (hne:∀ g,v.ownBlock=some g->u.ownBlock≠some g) (hi:i<=xs.length) (hl:xs.length+ys.length<=1000000) (hD:D<=w.heap.size) :
  Calls Tryz.prog 238 #[v,.int .i64 i,u] w (InsP w D v (xs.take i++ys++xs.drop i)):=by
 rcases Nat.eq_zero_or_pos ys.length with h0|h0
 ·obtain rfl:=List.eq_nil_of_length_eq_zero h0
  have hx:xs.take i++[]++xs.drop i=xs:=by simp
  rw[hx]
  have:∃ A' c',u=.slice A' 0 c':=by
   rcases own_open hu with ⟨rfl,_⟩|⟨vb,vc,ul,rfl,_⟩
   ·exact⟨_,_,rfl⟩
   ·exact⟨_,_,rfl⟩
  obtain⟨A',c',rfl⟩:=this
  have hvs:∃ A c,v=.slice A xs.length c:=by
   rcases own_open hv with ⟨rfl,rfl⟩|⟨vb,vc,ul,rfl,_⟩
   ·exact⟨_,_,rfl⟩
   ·exact⟨_,_,rfl⟩
  obtain⟨A,c,hv2⟩:=hvs
  exact(sinsert_none v A A' xs.length c i c' hi (by omega) hv2).mono fun e w' ⟨he,hw⟩=>⟨v,he,hw▸hv,hw▸Only.refl _ _,fun k hk=>.inl hk⟩
 ·rcases own_open hu with ⟨rfl,rfl⟩|⟨vb,vc,ul,rfl,_,hub,hul,huc,hus,hut⟩
  ·simp at h0
  have hvs:∀ j x,(ys.map encZ)[j]?=some x->w.cell? ⟨vb,0+j,none⟩=some x:=fun j x hj=>by rw[Nat.zero_add,cell_list hub];exact get_of_take hut hj
  have grow:∀(base:Option Addr) (c:Nat),v=.slice base xs.length c->c<xs.length+ys.length->xs.length<=c->(base=none->xs.length=0)->(∀ a,base=some a->∀ j x,(xs.map encZ)[j]?=some x->w.cell? (a.add j)=some x)->i=xs.length ->
    Calls Tryz.prog 238 #[v,.int .i64 i,.slice (some ⟨vb,0,none⟩) ys.length vc] w (InsP w D v (xs.take i++ys++xs.drop i)):=fun base c hvv hc hnc hb1 hb2 hi2=>by
   subst hi2
   have hm:grownCap w (xs.length+ys.length) c 3<=maxLen:=grownCap_le_maxLen _ _ _ _ (by unfold maxLen;omega)
   have hge:=grownCap_ge w (xs.length+ys.length) c 3
   rw[hvv]
   refine(Any2.slices_Insert_int_end_grow Tryz.laysInsert base xs.length c vb 0 ys.length vc (xs.map encZ) (ys.map encZ) w h0 hnc hc (by omega) (by simp) (by simp) hb1 hb2 hvs (int_one _)).mono ?_
   rintro e w' ⟨rfl,rfl⟩
   rw[List.take_of_length_le (Nat.le_refl _),List.drop_eq_nil_of_le (Nat.le_refl _),List.append_nil]
   have hlen:(xs++ys).length=xs.length+ys.length:=by simp
   refine⟨_,rfl,?_,(Only.refl _ w).drew.alloc _,fun k hk=>.inr (by simp[Value.ownBlock] at hk;omega)⟩
   have:=own_mk (w:=w.drew.alloc (.cells ((xs.map encZ++ys.map encZ).toArray++Builtin.zeroCells (Value.int .i64 0).cells (grownCap w (xs.length+ys.length) c 3 -(xs.length+ys.length))) 3)) (D:=D) (g:=w.heap.size) (cap:=grownCap w (xs.length+ys.length) c 3)
    (cl:=(xs++ys).map encZ++List.replicate (grownCap w (xs.length+ys.length) c 3 -(xs.length+ys.length)) (encZ 0)) (xs:=xs++ys) hD
    (by
     have h1:=(MapKept.heap_alloc w.drew (.cells ((xs.map encZ++ys.map encZ).toArray++Builtin.zeroCells (Value.int .i64 0).cells (grownCap w (xs.length+ys.length) c 3 -(xs.length+ys.length))) 3)).1
     have e:((xs++ys).map encZ++List.replicate (grownCap w (xs.length+ys.length) c 3 -(xs.length+ys.length)) (encZ 0)).toArray=(xs.map encZ++ys.map encZ).toArray++Builtin.zeroCells (Value.int .i64 0).cells (grownCap w (xs.length+ys.length) c 3 -(xs.length+ys.length)):=by
      rw[<-zeroC];simp
     rw[e];exact h1)
    (by rw[hlen];exact hge) hm (by simp;omega) (by rw[List.take_append_of_le_length (by simp),List.take_of_length_le (by simp)])
   rw[hlen] at this
   exact this
  rcases own_open hv with ⟨rfl,rfl⟩|⟨g,cap,cl,rfl,hDg,hgb,hgl,hgm,hgs,hgt⟩
  ·exact grow none 0 rfl (by simpa using h0) (Nat.le_refl _) (fun _=>rfl) (fun a h=>by cases h) (by simpa using hi)
  ·have hcs:∀ j x,(xs.map encZ)[j]?=some x->w.cell? ⟨g,0+j,none⟩=some x:=fun j x hj=>by rw[Nat.zero_add,cell_list hgb];exact get_of_take hgt hj
   have hvg:vb≠g:=fun e=>hne g rfl (by rw[<-e];rfl)
   unfold maxLen at hgm
   by_cases hroom:xs.length+ys.length<=cap
   ·rcases Nat.lt_or_ge i xs.length with h1|h1
    ·refine(Any2.slices_Insert_int_shift Tryz.laysInsert g 0 xs.length cap i vb 0 ys.length vc (xs.map encZ) (ys.map encZ) w h1 h0 hroom (by omega) hvg (by simp) (by simp) hcs
      (fun j hj=>by rw[Nat.zero_add,cell_list hgb];exact get_len hgs (by omega)) (fun j _=>froz_list hgb _) hvs (int_one _) (int_one _) 3 3 ul.length cl.length (shape_list hub) (shape_list hgb) (by omega) (froz_list hub _) (froz_list hub _)).mono ?_
     rintro e w' ⟨rfl,rfl⟩
     have hA:=heap_setCells ((xs.map encZ).drop i) (0+(i+ys.length)) w.drew cl hgb
     have hB:=heap_setCells (ys.map encZ) (0+i) _ _ hA
     refine⟨_,rfl,?_,((Only.refl _ w).drew.trans ((only_setCells _ _ _).mono (fun k hk=>by rw[hk];rfl))).trans ((only_setCells _ _ _).mono (fun k hk=>by rw[hk];rfl)),fun k hk=>.inl hk⟩
     have hlen:(xs.take i++ys++xs.drop i).length=xs.length+ys.length:=by simp;omega
     have:=own_mk (D:=D) (xs:=xs.take i++ys++xs.drop i) (cap:=cap) hDg hB (by omega) (by unfold maxLen;omega) (by rw[stL_length,stL_length];exact hgs) (by
      rw[hlen,stL_eq _ _ _ (by rw[stL_length];simp;omega),stL_eq _ _ _ (by simp;omega)]
      have t1:cl.take i=(xs.map encZ).take i:=take_of_take hgt (by omega)
      simp only[Nat.zero_add,List.length_map,List.length_drop]
      have e1:(cl.take (i+ys.length)++(xs.map encZ).drop i++cl.drop (i+ys.length+(xs.length - i))).take i=(xs.map encZ).take i:=by
       rw[List.append_assoc,List.take_append_of_le_length (by simp;omega),List.take_take,Nat.min_eq_left (by omega),t1]
      have e2:(cl.take (i+ys.length)++(xs.map encZ).drop i++cl.drop (i+ys.length+(xs.length - i))).drop (i+ys.length)=(xs.map encZ).drop i++cl.drop (i+ys.length+(xs.length - i)):=by
       rw[List.append_assoc,List.drop_append,List.drop_eq_nil_of_le (by simp;omega),List.nil_append,List.length_take,Nat.min_eq_left (by omega),Nat.sub_self,List.drop_zero]
      rw[e1,e2,<-List.append_assoc,List.take_append_of_le_length (by simp;omega),List.take_of_length_le (by simp;omega)]
      simp[List.map_take,List.map_drop])
     rw[hlen] at this
     exact this
    ·have hie:i=xs.length:=by omega
     subst hie
     refine(Any2.slices_Insert_int_end_room Tryz.laysInsert g 0 xs.length cap vb 0 ys.length vc (ys.map encZ) w h0 hroom (by omega) (by simp) (fun j hj=>by rw[Nat.zero_add,cell_list hgb];exact get_len hgs (by omega)) (fun j _=>froz_list hgb _) hvs (int_one _)).mono ?_
     rintro e w' ⟨rfl,rfl⟩
     have hB:=heap_setCells (ys.map encZ) (0+xs.length) w cl hgb
     refine⟨_,rfl,?_,(only_setCells _ _ _).mono (fun k hk=>by rw[hk];rfl),fun k hk=>.inl hk⟩
     rw[List.take_of_length_le (Nat.le_refl _),List.drop_eq_nil_of_le (Nat.le_refl _),List.append_nil]
     have hlen:(xs++ys).length=xs.length+ys.length:=by simp
     have:=own_mk (D:=D) (xs:=xs++ys) (cap:=cap) hDg hB (by omega) (by unfold maxLen;omega) (by rw[stL_length];exact hgs) (by
      rw[hlen,stL_eq _ _ _ (by simp;omega),Nat.zero_add,hgt,List.take_append_of_le_length (by simp),List.take_of_length_le (by simp)];simp)
     rw[hlen] at this
     exact this
   ·rcases Nat.lt_or_ge i xs.length with h1|h1
    ·refine(Any2.slices_Insert_int_grow Tryz.laysInsert g 0 xs.length cap i vb 0 ys.length vc (xs.map encZ) (ys.map encZ) w h1 h0 hgl (by omega) (by omega) (by simp) (by simp) hcs hvs (int_one _) (int_one _)).mono ?_
     rintro e w' ⟨rfl,rfl⟩
     have hm:grownCap w (xs.length+ys.length) cap 3<=maxLen:=grownCap_le_maxLen _ _ _ _ (by unfold maxLen;omega)
     have hge:=grownCap_ge w (xs.length+ys.length) cap 3
     obtain⟨GC,hGC⟩:∃ GC,GC=grownCap w (xs.length+ys.length) cap 3:=⟨_,rfl⟩
     have hGC2:grownCap w (xs.length+ys.length) cap (Tryz.laysInsert_ren.t 3)=GC:=hGC.symm
     rw[hGC2]
     rw[<-hGC] at hm hge
     have hlen:(xs.take i++ys++xs.drop i).length=xs.length+ys.length:=by simp;omega
     have h1':=(MapKept.heap_alloc w (.cells (((xs.map encZ).take i).toArray++Builtin.zeroCells (Value.int .i64 0).cells (xs.length+ys.length - i)++Builtin.zeroCells (Value.int .i64 0).cells (GC -(xs.length+ys.length))) (Tryz.laysInsert_ren.t 3))).1
     have e:((xs.map encZ).take i).toArray++Builtin.zeroCells (Value.int .i64 0).cells (xs.length+ys.length - i)++Builtin.zeroCells (Value.int .i64 0).cells (GC -(xs.length+ys.length))=((xs.map encZ).take i++List.replicate (GC - i) (encZ 0)).toArray:=by
      apply Array.toList_inj.1
      simp only[Array.toList_append,zeroC]
      rw[List.append_assoc,List.replicate_append_replicate]
      congr 2;omega
     rw[e] at h1' ⊢
     have hA:=heap_setCells (ys.map encZ) i _ _ (show(w.alloc (.cells ((xs.map encZ).take i++List.replicate (GC - i) (encZ 0)).toArray (Tryz.laysInsert_ren.t 3))).drew.heap[w.heap.size]?=some (.cells ((xs.map encZ).take i++List.replicate (GC - i) (encZ 0)).toArray 3 (0,0)) from h1')
     have hB:=heap_setCells ((xs.map encZ).drop i) (i+ys.length) (((w.alloc (.cells ((xs.map encZ).take i++List.replicate (GC - i) (encZ 0)).toArray (Tryz.laysInsert_ren.t 3))).drew.setCells w.heap.size i (ys.map encZ)).drew) _ hA
     refine⟨_,rfl,?_,?_,fun k hk=>.inr (by simp[Value.ownBlock] at hk;omega)⟩
     ·have:=own_mk (D:=D) (xs:=xs.take i++ys++xs.drop i) (cap:=GC) hD hB (by omega) hm (by rw[stL_length,stL_length];simp;omega) (by
       rw[hlen,stL_eq _ _ _ (by rw[stL_length];simp;omega),stL_eq _ _ _ (by simp;omega)]
       have l1:((xs.map encZ).take i).length=i:=by simp;omega
       have e1:((xs.map encZ).take i++List.replicate (GC - i) (encZ 0)).take i=(xs.map encZ).take i:=by rw[List.take_append_of_le_length (by omega),List.take_of_length_le (by omega)]
       rw[e1]
       have l2:((xs.map encZ).take i++ys.map encZ).length=i+ys.length:=by simp;omega
       have e2:∀ Z:List Value,((xs.map encZ).take i++ys.map encZ++Z).take (i+ys.length)=(xs.map encZ).take i++ys.map encZ:=fun Z=>by
        rw[List.take_append_of_le_length (by omega),List.take_of_length_le (by omega)]
       rw[e2,List.take_append_of_le_length (by simp;omega),List.take_of_length_le (by simp;omega)]
       simp[List.map_take,List.map_drop])
      rw[hlen] at this
      exact this
     ·exact(((((Only.refl _ w).alloc _).drew).then (only_setCells _ _ _) (fun k hk hlt=>by omega)).drew).then (only_setCells _ _ _) (fun k hk hlt=>by omega)
    ·exact grow (some ⟨g,0,none⟩) cap rfl (by omega) hgl (fun h=>by cases h) (fun a h j x hj=>by cases h;rw[Addr.add_lit];exact hcs j x hj) (by omega)
theorem bsearch_own {D:Nat} {v:Value} {xs:List Int} (hv:ROwn encI 3 1 D w v xs) (hs:xs.Pairwise (·<=·)) (hl:xs.length<=1000000) (x:Int) :
  Calls Tryz.prog 221 #[v,.int .i64 x] w fun e w'=>e=.returned (.tuple #[.int .i64 (xs.countP (·<x):Nat),.bool (xs.contains x)])/\Below w.heap.size w w':=by
 rcases own_open hv with ⟨rfl,rfl⟩|⟨g,cap,cl,rfl,hDg,hgb,hgl,hgm,hgs,hgt⟩
 ·exact(bsearch_nil x).mono fun e w' ⟨he,hw⟩=>⟨by rw[he];rfl,hw▸Below.refl _ _⟩
 ·have:=Any.slices_BinarySearch_int Tryz.laysSearch g 0 xs.length cap xs x w (Nat.le_refl _) (by omega) (fun j hj=>by
   rw[Nat.zero_add,cell_list hgb];exact get_of_take hgt (by simp[List.getElem?_map,List.getElem?_eq_getElem hj,List.getD_eq_getElem?_getD])) (by rw[List.take_of_length_le (Nat.le_refl _)];exact hs)
  rw[List.take_of_length_le (Nat.le_refl _)] at this
  refine this.mono ?_
  rintro e w' ⟨rfl,q,rfl⟩
  exact⟨rfl,below_drewN (Below.refl _ _) _⟩
end
end Go.Proofs.YtkpoodjhjfmfjaaGreatDoor
namespace Go.Proofs.YtkpoodjhjfmfjaaGreatDoor
def feedsF:Nat->List Nat->List Int
 | _,[]=>[]
 | k,c :: cs=>if c=10 then (k:Int) :: feedsF (k+1) cs else feedsF (k+1) cs
def feeds (cs:List Nat):List Int:=feedsF 1 cs
theorem feedsF_append:∀(a b:List Nat) (k:Nat),feedsF k (a++b)=feedsF k a++feedsF (k+a.length) b
 | [],b,k=>rfl
 | c :: a,b,k=>by
   simp only[List.cons_append,feedsF,feedsF_append a b (k+1),List.length_cons,show k+1+a.length=k+(a.length+1) by omega]
   split<;>rfl
theorem feedsF_shift:∀(cs:List Nat) (k n:Nat),feedsF (k+n) cs=(feedsF k cs).map (fun z=>z+(n:Int))
 | [],k,n=>rfl
 | c :: cs,k,n=>by
   simp only[feedsF,show k+n+1=(k+1)+n by omega,feedsF_shift cs (k+1) n]
   split
   ·rw[List.map_cons];simp
   ·rfl
theorem feedsF_mem:∀(cs:List Nat) (k:Nat) (z:Int),z ∈ feedsF k cs->(k:Int)<=z/\z<(k:Int)+cs.length
 | [],k,z,h=>by simp[feedsF] at h
 | c :: cs,k,z,h=>by
   simp only[feedsF] at h
   rw[List.length_cons]
   split at h
   ·rcases List.mem_cons.1 h with rfl|h
    ·omega
    ·have:=feedsF_mem cs (k+1) z h;omega
   ·have:=feedsF_mem cs (k+1) z h;omega
theorem feedsF_sorted:∀(cs:List Nat) (k:Nat),(feedsF k cs).Pairwise (·<·)
 | [],k=>List.Pairwise.nil
 | c :: cs,k=>by
   simp only[feedsF]
   split
   ·exact List.pairwise_cons.2 ⟨fun z hz=>by have:=(feedsF_mem cs (k+1) z hz).1;omega,feedsF_sorted cs (k+1)⟩
   ·exact feedsF_sorted cs (k+1)
theorem feedsF_len:∀(cs:List Nat) (k:Nat),(feedsF k cs).length<=cs.length
 | [],k=>Nat.le_refl _
 | c :: cs,k=>by
   simp only[feedsF,List.length_cons]
   have:=feedsF_len cs (k+1)
   split
   ·rw[List.length_cons];omega
   ·omega
theorem feeds_count (a b:List Nat) (at_:Int) (h:at_=a.length+1):(feeds (a++b)).countP (·<at_)=(feeds a).length:=by
 unfold feeds
 rw[feedsF_append,List.countP_append,List.countP_eq_length.2,List.countP_eq_zero.2]
 ·rfl
 ·intro z hz
  have:=feedsF_mem b (1+a.length) z hz
  simp;omega
 ·intro z hz
  have:=feedsF_mem a 1 z hz
  simp;omega
theorem feeds_ins (a m b:List Nat):feeds (a++m++b)=feeds a++feedsF (1+a.length) m++(feedsF (1+a.length) b).map (fun z=>z+(m.length:Int)):=by
 unfold feeds
 rw[feedsF_append,feedsF_append,List.length_append,<-Nat.add_assoc,feedsF_shift b (1+a.length) m.length]
theorem feeds_split (a b:List Nat):feeds (a++b)=feeds a++feedsF (1+a.length) b:=feedsF_append a b 1
theorem feeds_del (a m b:List Nat):feeds (a++b)=feeds a++(feedsF (1+a.length+m.length) b).map (fun z=>z -(m.length:Int)):=by
 rw[feeds_split,feedsF_shift b (1+a.length) m.length,List.map_map]
 congr 1
 conv=>lhs;rw[<-List.map_id (feedsF (1+a.length) b)]
 exact List.map_congr_left fun z _=>by simp[Function.comp]
theorem feedsF_snoc (cs:List Nat) (c k:Nat):feedsF k (cs++[c])=feedsF k cs++(if c=10 then [((k+cs.length:Nat):Int)] else []):=by
 rw[feedsF_append]
 simp only[feedsF]
end Go.Proofs.YtkpoodjhjfmfjaaGreatDoor
namespace Go.Proofs.YtkpoodjhjfmfjaaGreatDoor
open Go.RowKit Go.Lib
def gapFoot (t g:Nat) (fv:Value) (k:Nat):Prop:=k=t\/k=g\/fv.ownBlock=some k
structure GapX (w:World) (t g:Nat) (fv:Value) (B:List Int) (st en:Nat) (cs:List Nat):Prop where
 gw:GapW w t g B st en fv
 own:ROwn encI 3 1 0 w fv (feeds cs)
 nf:∀ k,fv.ownBlock=some k->k≠t/\k≠g
 txt:B.take st++B.drop en=cs.map Int.ofNat
 cn:∀ c ∈ cs,isN c
 le:cs.length<=65536
section
variable {w w' : World} {t g st en : Nat} {fv : Value} {B : List Int} {cs : List Nat}
theorem GapX.r (h:GapX w t g fv B st en cs):GapR w t g cs:=by
 obtain⟨c,hc,h0⟩:=h.gw.c0
 exact⟨B,c,st,en,⟨h0,h.gw.c1,h.gw.c2,hc,by have:=h.gw.lim;omega,h.gw.ltG,fun i z hz=>h.gw.at_ hz,h.gw.h1,h.gw.h2,h.txt,fun c hc=>h.cn c hc⟩⟩
theorem GapX.foot_lt (h:GapX w t g fv B st en cs) {k:Nat} (hk:gapFoot t g fv k):k<w.heap.size:=by
 rcases hk with rfl|rfl|hk
 ·exact h.gw.ltT
 ·exact h.gw.ltG
 ·exact h.own.lt hk
theorem GapX.only {S:Nat->Prop} (h:GapX w t g fv B st en cs) (ho:Only S w w') (hd:∀ k,gapFoot t g fv k->¬ S k):GapX w' t g fv B st en cs:=
 ⟨h.gw.only ho (hd t (.inl rfl)) (hd g (.inr (.inl rfl))),h.own.kept (fun k hk=>ho.block k (h.own.lt hk) (hd k (.inr (.inr hk)))),h.nf,h.txt,h.cn,h.le⟩
theorem GapX.up (h:GapX w t g fv B st en cs) (hb:Below w.heap.size w w'):GapX w' t g fv B st en cs:=⟨h.gw.up hb,h.own.up hb,h.nf,h.txt,h.cn,h.le⟩
theorem GapX.len (h:GapX w t g fv B st en cs):cs.length+(en - st)=B.length:=by
 have e:=congrArg List.length h.txt
 have:=h.gw.h1;have:=h.gw.h2
 simp only[List.length_append,List.length_take,List.length_drop,List.length_map] at e
 omega
theorem ggrow_any {n:Nat} (h:GapW w t g B st en fv) (hn2:n<=65536) (hsz:B.length -(en - st)+n<=65536) :
  Calls Tryz.prog 237 #[.pointer (some ⟨t,0,none⟩),.int .i64 n] w fun e w'=>e=.returned (.tuple #[])/\Only (fun k=>k=t) w w'/\∃ g' B' en',(g'=g\/w.heap.size<=g')/\GapW w' t g' B' st en' fv/\n<=en' - st/\B'.take st=B.take st/\B'.drop en'=B.drop en:=by
 by_cases hn:n<=en - st
 ·exact(ggrow_no h hn).mono fun e w' ⟨he,hb⟩=>⟨he,Only.of_below hb,g,B,en,.inl rfl,h.up hb,hn,rfl,rfl⟩
 ·refine(ggrow_yes h (by omega) hn2 hsz).mono ?_
  rintro e w' ⟨he,ho,g',B',en',h1,h2,h3,h4,h5⟩
  exact⟨he,ho,g',B',en',.inr h1,h2,h3,h4,h5⟩
end
def insC (cs:List Nat) (p:Nat) (m:List Nat):List Nat:=cs.take (p - 1)++m++cs.drop (p - 1)
def GapTo (w:World) (t g:Nat) (fv:Value) (cs:List Nat) (w':World):Prop:=
 Only (gapFoot t g fv) w w'/\∃ g' fv' B' st' en',GapX w' t g' fv' B' st' en' cs/\∀ k,gapFoot t g' fv' k->gapFoot t g fv k\/w.heap.size<=k
def bump (xs:List Int) (i j:Nat) (n:Int):List Int:=xs.take i++((xs.drop i).take (j - i)).map (fun z=>z+n)++xs.drop j
theorem bump_start (xs:List Int) (i:Nat) (n:Int):bump xs i i n=xs:=by simp[bump]
theorem bump_len {xs:List Int} {i j:Nat} (n:Int) (h1:i<=j) (h2:j<=xs.length):(bump xs i j n).length=xs.length:=by
 simp only[bump,List.length_append,List.length_map,List.length_take,List.length_drop];omega
theorem bump_get {xs:List Int} {i j:Nat} (n:Int) (h1:i<=j) (h2:j<xs.length):(bump xs i j n)[j]?=some xs[j]:=by
 unfold bump
 rw[List.getElem?_append_right (by simp;omega)]
 have e:(xs.take i++((xs.drop i).take (j - i)).map (fun z=>z+n)).length=j:=by simp;omega
 rw[e,Nat.sub_self,List.getElem?_drop];simp[h2]
theorem bump_step {xs:List Int} {i j:Nat} (n:Int) (h1:i<=j) (h2:j<xs.length):(bump xs i j n).set j (xs[j]+n)=bump xs i (j+1) n:=by
 unfold bump
 have e:(xs.take i++((xs.drop i).take (j - i)).map (fun z=>z+n)).length=j:=by simp;omega
 rw[List.set_append_right _ _ (by omega),e,Nat.sub_self]
 have e2:xs.drop j=xs[j] :: xs.drop (j+1):=List.drop_eq_getElem_cons h2
 rw[e2,List.set_cons_zero]
 have e3:(xs.drop i).take (j+1 - i)=(xs.drop i).take (j - i)++[xs[j]]:=by
  rw[show j+1 - i=(j - i)+1 by omega,List.take_succ_eq_append_getElem (by simp;omega)]
  congr 2;simp;congr 1;omega
 rw[e3,List.map_append,List.append_assoc,List.append_assoc,List.append_assoc]
 simp
theorem bump_end {xs:List Int} {i:Nat} (n:Int):bump xs i xs.length n=xs.take i++(xs.drop i).map (fun z=>z+n):=by
 unfold bump
 have e:(xs.drop i).take (xs.length - i)=xs.drop i:=List.take_of_length_le (by simp)
 rw[e,List.drop_length];simp
end Go.Proofs.YtkpoodjhjfmfjaaGreatDoor
namespace Go.Proofs.YtkpoodjhjfmfjaaGreatDoor
open Go.RowKit
def Mk (p:Prop):Prop:=p
section
variable {w w' : World} {t g : Nat}
set_option maxHeartbeats 1000000 in
theorem gnone0 {cs:Array Value} {L cap:Nat} (h:Blk w t 184 cs) (hc:cs[0]?=some (.slice (some ⟨g,0,none⟩) L cap)):Calls Tryz.prog 176 #[.pointer (some ⟨t,0,none⟩)] w fun e w'=>e=.returned (.bool false)/\w=w':=by
 have c0:=h.cell hc
 have hn:=Lib.run_eql_slice_nil (P:=Tryz.prog) w 182 21 (some ⟨g,0,none⟩) L cap 0 0 Tryz.underlying182
 clear h hc
 go_enter Tryz.func176,Tryz.ntmps176
 go_wp2_with fail
 go_ret
 exact⟨rfl,rfl⟩
set_option maxHeartbeats 1000000 in
theorem gsize0 (f:Value) (h:Blk w t 184 (txtC g 0 0 0 0 f)):Calls Tryz.prog 100 #[.pointer (some ⟨t,0,none⟩)] w fun e w'=>e=.returned (.int .i64 0)/\Below w.heap.size w w':=by
 have HN:=qH (gnone0 h rfl)
 have c0:=h.cell (j:=0) rfl
 have c1:=h.cell (j:=1) rfl
 have c2:=h.cell (j:=2) rfl
 clear h
 go_enter Tryz.func100,Tryz.ntmps100
 go_wp2_with fail
 refine HN.out.mono ?_
 rintro e w' ⟨rfl,rfl⟩
 go_wp2_with fail
 go_region
 go_wp2_with fail
 go_ret
 exact⟨rfl,(Below.refl _ w).drew⟩
end
end Go.Proofs.YtkpoodjhjfmfjaaGreatDoor
