/- A part of the proof of BufferNames: package buffer and its parts. -/
import Derived.Test.YtkpoodjhjfmfjaaGreatDoorProg
import GoSem.PinnedTables
import GoSem.Claim
import GoSem.ClaimJoined
import GoSem.ClaimMapViews
import Derived.JoinedTies
import Derived.KernelRfl
import Derived.WalkKit
import Derived.WalkSpells
import Derived.WalkLawsBesides
import Derived.Deep.QuietTactic
import Derived.BigQuiet
import Derived.StillTail
import Derived.Lib.Hide
import Derived.Maps.AppendAt
import Derived.Deep.AppendLies
import Derived.Deep.RegionLaw
import Derived.Laws.OwnMore
import Derived.OrdersHeld
import Derived.Deep.Slices
import Derived.Deep.Fields
import Derived.ChangeSame
import Derived.ProofKit
import Derived.BigRegion
import Derived.RegionTactic
import Derived.ChangeAlike
import Derived.Laws.Rows
import Derived.Lib.SliceRun
import Derived.LaidEqlPtr
import Derived.Sort.Grow
set_option linter.unusedVariables false
set_option linter.unusedSimpArgs false
namespace Go.Proofs.YtkpoodjhjfmfjaaGreatDoor
theorem qH {p : Prop} (h : p) : Go.RowKit.Hid p := h
end Go.Proofs.YtkpoodjhjfmfjaaGreatDoor
namespace Go.Proofs.YtkpoodjhjfmfjaaGreatDoor
open Go.RowKit
theorem up2 {w w1 w2:World} (h:Below w.heap.size w w1) (k:Below w1.heap.size w1 w2):Below w.heap.size w w2:=h.trans (k.mono h.size)
theorem below1 (w:World) (a:Obj):Below w.heap.size w (w.alloc a):=(Below.refl _ w).alloc (Nat.le_refl _) _
theorem ret_int {k:IntKind} {a b:Int} (h:a=b):Ending.returned (.int k a)=.returned (.int k b):=by rw[h]
theorem ret_bool {a b:Bool} (h:a=b):Ending.returned (.bool a)=.returned (.bool b):=by rw[h]
theorem ret_two {a b:Int} {v:Value} (h:a=b):Ending.returned (.tuple #[.int .i64 a,v])=.returned (.tuple #[.int .i64 b,v]):=by rw[h]
theorem lt_of_cell {w:World} {b o:Nat} {v:Value} (h:w.cell? ⟨b,o,none⟩=some v):b<w.heap.size:=by
 rcases Nat.lt_or_ge b w.heap.size with h'|h'
 ·exact h'
 ·simp[World.cell?,Array.getElem?_eq_none h'] at h
structure UpW (N:Nat) (w0:World) where
 w:World
 up:Below N w0 w
instance UpW.some (N:Nat) (w0:World):Nonempty (UpW N w0):=⟨⟨w0,Below.refl N w0⟩⟩
theorem wp_region_up {P:Program} {id:Nat} {Q:Exit->Act->World->Prop} {a:Act} {w:World} {l:List Oper} (N:Nat) (hm:P.follows .mixedOrders=true) (hB:Region.lexB .any l.toArray=true)
  (h:wpQuiet P l.toArray (fun w'=>∃ x:UpW N w,w'=x.w) (fun a'=>∀ x:UpW N w,Q .normal a' x.w) l a):(Code.region id l.toArray true).wp P Q a w:=
 wp_region_quiet (C:=fun w'=>∃ x:UpW N w,w'=x.w) hm hB ⟨⟨w.drew,(Below.refl N w).drew⟩,rfl⟩ (by
  have e:(fun a'=>∀ w',(∃ x:UpW N w,w'=x.w)->Q .normal a' w')=(fun a'=>∀ x:UpW N w,Q .normal a' x.w):=by
   funext a';exact propext ⟨fun h x=>h _ ⟨x,rfl⟩,fun h w' ⟨x,hx⟩=>hx▸h x⟩
  rw[e];simpa using h)
theorem Calls.up {P:Program} {f:FuncId} {args:Array Value} {N:Nat} {w0:World} {v:Value} (x:UpW N w0) (hN:N<=w0.heap.size) (h:Calls P f args x.w fun e w'=>e=.returned v/\Below x.w.heap.size x.w w') :
  Calls P f args x.w fun e w''=>e=.returned v/\∃ y:UpW N w0,w''=y.w:=
 h.mono fun e w' ⟨he,hb⟩=>⟨he,⟨w',x.up.trans (hb.mono (Nat.le_trans hN x.up.size))⟩,rfl⟩
section
variable {P : Program} {ops : Array Oper} {md : Region.Mode} {C : World → Prop}
def headQ (P:Program) (md:Region.Mode) (ops:Array Oper) (C:World->Prop) (n:Nat) (L:Array Bool->Act->Prop):Nat->Array Bool->Act->Prop
 | 0,listed,a=>L listed a
 | f+1,listed,a=>Region.ready md ops listed≠[]/\∀ i ∈ Region.ready md ops listed,i<n/\qOp P ops C i (headQ P md ops C n L f (listed.setIfInBounds i true)) a
theorem any_of_head {n g:Nat} {L:Array Bool->Act->Prop} {Q:Exit->Act->World->Prop} (hL:∀ listed a w,C w->L listed a->wpAny P md ops Q g listed a w) :
  ∀(f:Nat) (listed:Array Bool) (a:Act) (w:World),C w->headQ P md ops C n L f listed a->wpAny P md ops Q (f+g) listed a w
 | 0,listed,a,w,hw,h=>by rw[Nat.zero_add];exact hL _ _ _ hw h
 | f+1,listed,a,w,hw,h=>by
   rw[show f+1+g=(f+g)+1 by omega]
   exact⟨fun h0=>absurd h0 h.1,fun i hi=>wpOp_of_qOp hw (fun a' w' hw' h'=>any_of_head hL f _ a' w' hw' h') (h.2 i hi).2⟩
theorem head_first {n i:Nat} {oi:Oper} {v:Value} {L:Array Bool->Act->Prop} (hi:ops[i]?=some oi) (hsel:∀(j:Nat) (o:Oper) cs b,ops[j]?=some o->o.op≠.select cs b)
  (hs:Region.sinkB md ops n=true) (hc:Region.chainB md ops n=true) (hn:n<ops.size) (hin:i<n) (hdone:∀ listed a,L listed a->∀ j ∈ Region.ready md ops listed,n<=j) :
  ∀ (f:Nat) (listed:Array Bool) (a:Act),HeadInv md ops n listed ->
    (∀ j oj,ops[j]?=some oj->j≠i->listed.getD j true=false->(∀ e ∈ oj.after,Region.binds md e=true->e.on≠i)->oi.apart ops oj=true) ->
    i ∈ Region.ready md ops listed->YieldsIn P ops C oi v a->headQ P md ops C n L f (listed.setIfInBounds i true) (a.put oi.dst v)->headQ P md ops C n L (f+1) listed a:=by
 intro f
 induction f with
 | zero=>
   intro listed a inv _ hr hy H
   have hun:=(mem_ready.1 hr).1
   refine⟨fun h=>(by rw[h] at hr;cases hr),fun j hj=>?_⟩
   have hjn:j<n:=Nat.lt_of_not_le fun h=>tail_waits hs hc hn inv _ i rfl hin hun j h hj
   refine⟨hjn,?_⟩
   by_cases hji:j=i
   ·subst hji;exact hy.qOp hi H
   ·have:=hdone _ _ H j (ready_mono hj hji)
    omega
 | succ f ih=>
   intro listed a inv hfree hr hy H
   have hun:=(mem_ready.1 hr).1
   refine⟨fun h=>(by rw[h] at hr;cases hr),fun j hj=>?_⟩
   have hjn:j<n:=Nat.lt_of_not_le fun h=>tail_waits hs hc hn inv _ i rfl hin hun j h hj
   refine⟨hjn,?_⟩
   by_cases hji:j=i
   ·subst hji;exact hy.qOp hi H
   ·have h1:=(H.2 j (ready_mono hj hji)).2
    obtain⟨hjun,oj,hoj,hall⟩:=mem_ready.1 hj
    have hnot:∀ e ∈ oj.after,Region.binds md e=true->e.on≠i:=fun e he hb heq=>by
     have h1:=hall e he hb
     rw[heq,getD_both hun] at h1
     cases h1
    have h2:=qOp_put hoj (hfree j oj hoj hji hjun hnot) (fun cs b=>hsel i oi cs b hi) (fun cs b=>hsel j oj cs b hoj) hy h1
    refine qOp_mono (fun a' h3=>ih (listed.setIfInBounds j true) a' (inv.set hj hjn) (fun k ok hk hki hun' hno=>hfree k ok hk hki ?_ hno) (ready_mono hr (Ne.symm hji)) h3.1 ?_) h2
    ·by_cases hjk:j=k
     ·subst hjk;exact hjun
     ·rw[getD_set_ne true hjk] at hun';exact hun'
    ·rw[Array.setIfInBounds_comm _ _ hji]
     exact h3.2
theorem head_lex {n g:Nat} {Lq:Act->Prop} (hsel:Region.noSelect ops=true) (hs:Region.sinkB md ops n=true) (hc:Region.chainB md ops n=true) (hn:n<ops.size) :
  ∀(l:List Oper) (k:Nat) (listed:Array Bool) (a:Act),(∀ j,j<l.length->l[j]?=ops[k+j]?)->k+l.length=n->HeadInv md ops n listed ->
  Region.lexHead md ops g l.length k listed=true->wpQuiet P ops C Lq l a->headQ P md ops C n (fun listed' a'=>Region.seqB md ops g n listed'=true/\Lq a') l.length listed a
 | [],k,listed,a,_,hk,_,hB,h=>by
   obtain rfl:k=n:=by simpa using hk
   exact⟨by simpa [Region.lexHead] using hB,h⟩
 | o :: l,k,listed,a,hl,hk,inv,hB,h=>by
   have h0:ops[k]?=some o:=by simpa using (hl 0 (by simp)).symm
   simp only[List.length_cons,Region.lexHead,Bool.and_eq_true] at hB
   obtain⟨⟨hr,hf⟩,hB'⟩:=hB
   have hkn:k<n:=by simp only[List.length_cons] at hk;omega
   have hr':k ∈ Region.ready md ops listed:=by simpa using hr
   have hst:qOp P ops C k (wpQuiet P ops C Lq l) a:=by unfold qOp;simp only[h0];exact h
   obtain⟨v,hy,hK⟩:=yieldsIn_of_qOp h0 hst
   exact head_first h0 (Region.noSelect_spec hsel) hs hc hn hkn (fun listed' a' hL=>seqB_ready hL.1) l.length listed a inv (Region.free_spec h0 hf) hr' hy
    (head_lex hsel hs hc hn l (k+1) _ _ (fun j hj=>by have:=hl (j+1) (by simp;omega);simpa [Nat.add_assoc,Nat.add_comm 1 j] using this) (by simp only[List.length_cons] at hk;omega) (inv.set hr' hkn) hB' hK)
end
theorem wp_region_up_tail {P:Program} {id:Nat} {Q:Exit->Act->World->Prop} {a:Act} {w:World} {l:List Oper} (N n:Nat) (hm:P.follows .mixedOrders=true) (hB:Region.lexTailB .any l.toArray n=true)
  (h:wpQuiet P l.toArray (fun w'=>∃ x:UpW N w,w'=x.w) (fun a'=>∀ x:UpW N w,wpList P l.toArray Q (l.drop n) a' x.w) (l.take n) a):(Code.region id l.toArray true).wp P Q a w:=by
 simp only[Region.lexTailB,Bool.and_eq_true,decide_eq_true_eq] at hB
 obtain⟨⟨⟨⟨hsel,hn⟩,hs⟩,hc⟩,hlex⟩:=hB
 have hn':n<l.length:=by simpa using hn
 have htl:(l.take n).length=n:=by simp;omega
 have hdl:(l.drop n).length=l.toArray.size - n:=by simp
 have inv0:HeadInv .any l.toArray n (Array.replicate l.toArray.size false):=
  ⟨by simp,fun j oj _ hl=>(by rw[getD_replicate_false] at hl;cases hl),fun t _ ht=>getD_in (by simpa using ht) (getD_replicate_false _ _)⟩
 have H:=head_lex (md:=.any) (g:=l.toArray.size - n) hsel hs hc hn (l.take n) 0 _ a (fun j hj=>by
  have hj':j<n:=by rw[htl] at hj;exact hj
  simp[hj']) (by simpa using htl) inv0 (by rw[htl];exact hlex) h
 refine wp_region_any hm ?_
 have:=any_of_head (Q:=Q) (g:=l.toArray.size - n) (fun listed a' w' hw hL=>by
  obtain⟨x,rfl⟩:=hw
  have:=wpAny_of_seq (md:=.any) (Q':=Q) (l.drop n) n listed a' x.w (fun j=>by simp[List.getElem?_drop]) (by rw[hdl];exact hL.1) (hL.2 x)
  rwa [hdl] at this) _ _ _ _ ⟨⟨w.drew,(Below.refl N w).drew⟩,rfl⟩ H
 rw[htl,show n+(l.toArray.size - n)=l.toArray.size by omega] at this
 exact this
structure Only (S:Nat->Prop) (w w':World):Prop where
 os:w'.os=w.os
 tape:w'.tape=w.tape
 output:w'.output=w.output
 size:w.heap.size<=w'.heap.size
 block:∀ k,k<w.heap.size->¬ S k->w'.heap[k]?=w.heap[k]?
theorem Only.refl (S:Nat->Prop) (w:World):Only S w w:=⟨rfl,rfl,rfl,Nat.le_refl _,fun _ _ _=>rfl⟩
theorem Only.trans {S:Nat->Prop} {a b c:World} (h:Only S a b) (k:Only S b c):Only S a c:=
 ⟨k.os.trans h.os,k.tape.trans h.tape,k.output.trans h.output,Nat.le_trans h.size k.size,fun i hi hs=>(k.block i (Nat.lt_of_lt_of_le hi h.size) hs).trans (h.block i hi hs)⟩
theorem Only.mono {S T:Nat->Prop} {a b:World} (h:Only S a b) (hs:∀ k,S k->T k):Only T a b:=⟨h.os,h.tape,h.output,h.size,fun i hi ht=>h.block i hi (fun e=>ht (hs i e))⟩
theorem Only.of_below {S:Nat->Prop} {a b:World} (h:Below a.heap.size a b):Only S a b:=⟨h.os,h.tape,h.output,h.size,fun i hi _=>h.block i hi⟩
theorem Only.of_grown {S:Nat->Prop} {a b:World} {r:Nat} (h:a.grownBy b (some r)) (hr:S r):Only S a b:=⟨h.os,h.tape,h.output,h.size,fun i hi hs=>h.block i hi (fun e=>hs (by cases e;exact hr))⟩
theorem Only.setCell {S:Nat->Prop} {a b:World} (h:Only S a b) {p:Addr} (hp:S p.block) (u:Value):Only S a (b.setCell p u):=
 h.trans ⟨rfl,rfl,rfl,by simp[World.setCell],fun k _ hk=>Below.heap_setCell _ _ _ _ (fun e=>hk (e▸hp))⟩
theorem Only.alloc {S:Nat->Prop} {a b:World} (h:Only S a b) (o:Obj):Only S a (b.alloc o):=h.trans (.of_below (below1 b o))
theorem Only.drew {S:Nat->Prop} {a b:World} (h:Only S a b):Only S a b.drew:=⟨h.os,h.tape,h.output,h.size,h.block⟩
theorem Only.then {S T:Nat->Prop} {a b c:World} (h:Only S a b) (k:Only T b c) (ht:∀ i,T i->i<a.heap.size->S i):Only S a c:=
 ⟨k.os.trans h.os,k.tape.trans h.tape,k.output.trans h.output,Nat.le_trans h.size k.size,fun i hi hs=>(k.block i (Nat.lt_of_lt_of_le hi h.size) (fun e=>hs (ht i e hi))).trans (h.block i hi hs)⟩
theorem Only.below {S:Nat->Prop} {a b:World} (h:Only S a b) {B:Nat} (hB:B<=a.heap.size) (hs:∀ k,S k->B<=k):Below B a b:=
 ⟨h.os,h.tape,h.output,h.size,fun i hi=>h.block i (Nat.lt_of_lt_of_le hi hB) (fun e=>by have:=hs i e;omega)⟩
theorem Only.of_up {S:Nat->Prop} {N:Nat} {a b:World} (h:Below N a b) (hN:a.heap.size<=N):Only S a b:=⟨h.os,h.tape,h.output,h.size,fun i hi _=>h.block i (by omega)⟩
end Go.Proofs.YtkpoodjhjfmfjaaGreatDoor
namespace Go.Proofs.YtkpoodjhjfmfjaaGreatDoor
open Go.RowKit
structure Elt {α:Type} (enc:α->List Value) (T E k by_:Nat) (z:Value):Prop where
 ht:Tryz.prog.underlying T=some (.slice E)
 info:(Tryz.prog.info? E).map (fun i=>(i.zero,i.size,i.bytes))=some (some z,k,by_)
 zs:z.cells.size=k
 k0:0<k
 len:∀ x,(enc x).length=k
 one:∀ x,∀ u ∈ enc x,u.oneCell'=true
section
variable {α : Type} (enc : α → List Value) (E k : Nat)
def cellsL (xs:List α):List Value:=xs.flatMap enc
def RSl (w:World) (A:Option Addr) (zs:List α):Prop:=0<zs.length->∃ g o,A=some ⟨g,o,none⟩/\g<w.heap.size/\∀ j u,(cellsL enc zs)[j]?=some u->w.cell? ⟨g,o+j,none⟩=some u
def ROwn (B:Nat) (w:World) (v:Value) (zs:List α):Prop:=w.ownsRow B E k v zs.length (cellsL enc zs)
end
section
variable {α : Type} {enc : α → List Value} {T E k by_ B : Nat} {z : Value} {w w' : World} {A : Option Addr} {zs xs ys : List α} {v : Value}
theorem cellsL_append (xs ys:List α):cellsL enc (xs++ys)=cellsL enc xs++cellsL enc ys:=by simp[cellsL]
theorem cellsL_cons (x:α) (ys:List α):cellsL enc (x :: ys)=enc x++cellsL enc ys:=by simp[cellsL]
theorem cellsL_length (hl:∀ x,(enc x).length=k):∀ xs:List α,(cellsL enc xs).length=xs.length*k
 | []=>by simp[cellsL]
 | x :: xs=>by rw[cellsL_cons,List.length_append,hl,cellsL_length hl xs,List.length_cons,Nat.add_mul];omega
theorem cellsL_at (hl:∀ x,(enc x).length=k):∀(xs:List α) (i:Nat) (x:α) (j:Nat),xs[i]?=some x->j<k->(cellsL enc xs)[i*k+j]?=(enc x)[j]?
 | [],i,x,j,h,_=>by simp at h
 | y :: ys,0,x,j,h,hj=>by
   simp at h
   subst h
   rw[cellsL_cons,Nat.zero_mul,Nat.zero_add,List.getElem?_append_left (by rw[hl];exact hj)]
 | y :: ys,i+1,x,j,h,hj=>by
   have h':ys[i]?=some x:=by simpa using h
   rw[cellsL_cons,List.getElem?_append_right (by rw[hl,Nat.add_mul];omega),hl,show(i+1)*k+j - k=i*k+j by rw[Nat.add_mul];omega]
   exact cellsL_at hl ys i x j h' hj
theorem cellsL_take (hl:∀ x,(enc x).length=k) (xs:List α) (n:Nat) (hn:n<=xs.length):cellsL enc (xs.take n)=(cellsL enc xs).take (n*k):=by
 have e:cellsL enc xs=cellsL enc (xs.take n)++cellsL enc (xs.drop n):=by rw[<-cellsL_append,List.take_append_drop]
 have hlen:(cellsL enc (xs.take n)).length=n*k:=by rw[cellsL_length hl,List.length_take,Nat.min_eq_left hn]
 rw[e,<-hlen,List.take_left]
theorem cellsL_drop (hl:∀ x,(enc x).length=k) (xs:List α) (n:Nat) (hn:n<=xs.length):cellsL enc (xs.drop n)=(cellsL enc xs).drop (n*k):=by
 have e:cellsL enc xs=cellsL enc (xs.take n)++cellsL enc (xs.drop n):=by rw[<-cellsL_append,List.take_append_drop]
 have hlen:(cellsL enc (xs.take n)).length=n*k:=by rw[cellsL_length hl,List.length_take,Nat.min_eq_left hn]
 rw[e,<-hlen,List.drop_left]
theorem RSl.nil (w:World) (A:Option Addr):RSl enc w A []:=fun h=>by simp at h
theorem RSl.up {w0 w:World} (h:RSl enc w0 A ys) (hb:Below w0.heap.size w0 w):RSl enc w A ys:=fun hp=>by
 obtain⟨g,o,e,hg,hc⟩:=h hp
 exact⟨g,o,e,Nat.lt_of_lt_of_le hg hb.size,fun j z hz=>(World.cell?_of_block (w:=w0) (a:=⟨g,o+j,none⟩) (hb.block g hg)).trans (hc j z hz)⟩
theorem RSl.take (I:Elt enc T E k by_ z) (h:RSl enc w A zs) (n:Nat):RSl enc w A (zs.take n):=fun hp=>by
 obtain⟨g,o,e,hg,hc⟩:=h (by rw[List.length_take] at hp;omega)
 refine⟨g,o,e,hg,fun j u hu=>hc j u ?_⟩
 rcases Nat.le_total n zs.length with hn|hn
 ·rw[cellsL_take I.len zs n hn,List.getElem?_take] at hu
  split at hu
  ·exact hu
  ·cases hu
 ·rwa [List.take_of_length_le hn] at hu
theorem RSl.drop (I:Elt enc T E k by_ z) (h:RSl enc w A zs) {n cap:Nat} (hn:n<=zs.length) (hc:zs.length<=cap):RSl enc w (if cap=n then A else A.map (·.add (n*k))) (zs.drop n):=fun hp=>by
 rw[List.length_drop] at hp
 obtain⟨g,o,rfl,hg,hcell⟩:=h (by omega)
 rw[if_neg (by omega)]
 refine⟨g,o+n*k,by simp[Addr.add],hg,fun j u hu=>?_⟩
 rw[cellsL_drop I.len zs n hn,List.getElem?_drop] at hu
 rw[Nat.add_assoc];exact hcell _ _ hu
theorem RSl.at_ (I:Elt enc T E k by_ z) (h:RSl enc w A zs) {i:Nat} {x:α} (hi:zs[i]?=some x):∃ g o,A=some ⟨g,o,none⟩/\g<w.heap.size/\∀ j u,(enc x)[j]?=some u->w.cell? ⟨g,o+(i*k+j),none⟩=some u:=by
 obtain⟨g,o,e,hg,hc⟩:=h (by have:=(List.getElem?_eq_some_iff.1 hi).1;omega)
 refine⟨g,o,e,hg,fun j u hu=>hc _ u ?_⟩
 rw[cellsL_at I.len zs i x j hi (by have:=(List.getElem?_eq_some_iff.1 hu).1;rw[I.len] at this;exact this)]
 exact hu
theorem ROwn.shape (I:Elt enc T E k by_ z) (h:ROwn enc E k B w v zs):∃ A cap,v=.slice A zs.length cap/\zs.length<=cap/\cap<=maxLen/\RSl enc w A zs:=by
 rcases h.2 with ⟨rfl,h0⟩|⟨g,cap,cur,rfl,_,hg,hnc,hcm,hsz,htk⟩
 ·have:zs=[]:=List.eq_nil_of_length_eq_zero h0
  subst this
  exact⟨none,0,rfl,by simp,by simp,RSl.nil _ _⟩
 ·refine⟨_,cap,rfl,hnc,hcm,fun hp=>⟨g,0,rfl,(Array.getElem?_eq_some_iff.1 hg).1,fun j u hu=>?_⟩⟩
  have hj:j<(cellsL enc zs).length:=(List.getElem?_eq_some_iff.1 hu).1
  rw[<-htk,List.getElem?_take] at hu
  split at hu
  ·simp only[World.cell?,hg,Nat.zero_add]
   simpa using hu
  ·cases hu
theorem ROwn.nil (B:Nat) (w:World):ROwn enc E k B w (.slice none 0 0) []:=⟨by simp[cellsL],.inl ⟨rfl,rfl⟩⟩
theorem ROwn.kept (h:ROwn enc E k B w v zs) (hk:∀ g,v.ownBlock=some g->w'.heap[g]?=w.heap[g]?):ROwn enc E k B w' v zs:=by
 refine⟨h.1,?_⟩
 rcases h.2 with h0|⟨g,cap,cur,rfl,hb,hg,r⟩
 ·exact .inl h0
 ·exact .inr ⟨g,cap,cur,rfl,hb,(hk g rfl).trans hg,r⟩
theorem ROwn.base (h:ROwn enc E k B w v zs) {g:Nat} (hg:v.ownBlock=some g):B<=g:=by
 rcases h.2 with ⟨rfl,_⟩|⟨g',cap,cur,rfl,hb,hh,r⟩
 ·simp[Value.ownBlock] at hg
 ·simp[Value.ownBlock] at hg;subst hg;exact hb
theorem ROwn.empty (B:Nat) (w:World) (h:B<=w.heap.size):ROwn enc E k B (w.alloc (.cells #[] E)) (.slice (some ⟨w.heap.size,0,none⟩) 0 0) []:=
 ⟨by simp[cellsL],.inr ⟨w.heap.size,0,#[],rfl,h,(MapKept.heap_alloc w _).1,by simp,by simp,by simp,by simp[cellsL]⟩⟩
theorem ROwn.lt (h:ROwn enc E k B w v zs) {g:Nat} (hg:v.ownBlock=some g):g<w.heap.size:=by
 rcases h.2 with ⟨rfl,_⟩|⟨g',cap,cur,rfl,hb,hh,r⟩
 ·simp[Value.ownBlock] at hg
 ·simp[Value.ownBlock] at hg;subst hg;exact(Array.getElem?_eq_some_iff.1 hh).1
theorem ROwn.low {B':Nat} (h:ROwn enc E k B w v zs) (hB:B'<=B):ROwn enc E k B' w v zs:=by
 refine⟨h.1,?_⟩
 rcases h.2 with h0|⟨g,cap,cur,rfl,hb,r⟩
 ·exact .inl h0
 ·exact .inr ⟨g,cap,cur,rfl,Nat.le_trans hB hb,r⟩
theorem ROwn.up (h:ROwn enc E k B w v zs) (hb:Below w.heap.size w w'):ROwn enc E k B w' v zs:=h.kept fun g hg=>hb.block g (h.lt hg)
theorem append_run (I:Elt enc T E k by_ z) (h:ROwn enc E k B w v xs) (hB:B<=w.heap.size) (hs:RSl enc w A ys) (c:Nat) (hlen:xs.length+ys.length<=1000000000) (hby:by_<=100000) :
  ∃ v' w',(∀ ty,(Builtin.append_ #[T,T] ty #[v,.slice A ys.length c]).run Tryz.prog w=.ok v' w')/\ROwn enc E k B w' v' (xs++ys)/\w.grownBy w' v.ownBlock/\(v'.ownBlock=v.ownBlock\/v'.ownBlock=some w.heap.size):=by
 obtain⟨i,hi,hz0,hz1,hz2⟩:=info_parts I.info
 have one:∀ u ∈ cellsL enc ys,u.oneCell'=true:=fun u hu=>by obtain⟨x,_,hx⟩:=List.mem_flatMap.1 hu;exact I.one x u hx
 rcases A with _|ad
 ·have hy:ys=[]:=by
   rcases Nat.eq_zero_or_pos ys.length with h0|h0
   ·exact List.eq_nil_of_length_eq_zero h0
   ·obtain⟨g,o,e,_⟩:=hs h0;cases e
  subst hy
  refine⟨v,w,fun ty=>?_,by simpa using h,World.grownBy.refl w _,.inl rfl⟩
  rcases h.2 with ⟨rfl,h0⟩|⟨g,cap,cur,rfl,_,_,hnc,_⟩
  ·simp[Builtin.append_,run_underlying I.ht,sizeOf,typeInfo,hi,Builtin.lenOf,Builtin.firstCells]
  ·simp[Builtin.append_,run_underlying I.ht,sizeOf,typeInfo,hi,Builtin.lenOf,Builtin.firstCells,hnc,storeCells]
 ·have hcells:∀ j u,(cellsL enc ys)[j]?=some u->w.cell? (ad.add j)=some u:=by
   intro j u hu
   have hj:=(List.getElem?_eq_some_iff.1 hu).1
   rw[cellsL_length I.len] at hj
   obtain⟨g,o,e,_,hc⟩:=hs (by rcases Nat.eq_zero_or_pos ys.length with h0|h0
                              ·rw[h0] at hj;omega
                              ·exact h0)
   simp only[Option.some.injEq] at e
   subst e
   rw[Go.WideShapes.add_plain];exact hc j u hu
  obtain⟨v',w',hrun,h2,h3,_,h5⟩:=run_append_own_at (P:=Tryz.prog) w B T 0 E i z k by_ I.ht hi hz0 hz1 hz2 I.zs I.k0 v xs.length (cellsL enc xs) h ad ys.length c (cellsL enc ys) (cellsL_length I.len ys) hcells one (by unfold maxLen;omega)
   (Nat.le_trans (Nat.mul_le_mul hlen hby) (by omega)) hB
  refine⟨v',w',fun ty=>hrun,?_,h3,h5⟩
  unfold ROwn
  rw[List.length_append,cellsL_append]
  exact h2
theorem RSl.one (I:Elt enc T E k by_ z) (w:World) (x:α):RSl enc (w.alloc (.cells (enc x).toArray E)) (some ⟨w.heap.size,0,none⟩) [x]:=by
 intro _
 refine⟨w.heap.size,0,rfl,by simp,fun j u hu=>?_⟩
 simp only[cellsL,List.flatMap_cons,List.flatMap_nil,List.append_nil] at hu
 simp only[World.cell?,(MapKept.heap_alloc w _).1,Nat.zero_add]
 simpa using hu
theorem append_elem (I:Elt enc T E k by_ z) (h:ROwn enc E k B w v xs) (hB:B<=w.heap.size) (x:α) (hlen:xs.length+1<=1000000000) (hby:by_<=100000) :
  ∃ v' w',(∀ ty,(Builtin.append_ #[T,T] ty #[v,.slice (some ⟨w.heap.size,0,none⟩) 1 1]).run Tryz.prog (w.alloc (.cells (enc x).toArray E))=.ok v' w')/\ROwn enc E k B w' v' (xs++[x])/\Below B w w'/\Only (fun g=>v.ownBlock=some g) w w'/\(v'.ownBlock=v.ownBlock\/∃ g,v'.ownBlock=some g/\w.heap.size<=g):=by
 have hsz:(w.alloc (.cells (enc x).toArray E)).heap.size=w.heap.size+1:=by simp
 obtain⟨v',w',h1,h2,h3,h4⟩:=append_run I (h.kept fun g hg=>(MapKept.heap_alloc w (.cells (enc x).toArray E)).2 g (h.lt hg)) (by omega) (RSl.one I w x) 1 (by simpa using hlen) hby
 have hal:=(MapKept.heap_alloc w (.cells (enc x).toArray E)).2
 refine⟨v',w',h1,h2,((Below.refl B w).alloc hB _).grown h3 (by omega) (fun k hk=>h.base hk),?_,?_⟩
 ·exact⟨h3.os,h3.tape,h3.output,by have:=h3.size;omega,fun i hi hs=>(h3.block i (by omega) (fun e=>hs e.symm)).trans (hal i hi)⟩
 ·rcases h4 with h4|h4
  ·exact .inl h4
  ·exact .inr ⟨_,h4,by omega⟩
theorem wpList_app_run {P:Program} {w w':World} {ops:Array Oper} {rest:List Oper} {o:Oper} {a:Act} {Q:Exit->Act->World->Prop} {v u v':Value} (hgd:o.guard=none) (s x:Operand) (t:TypeId)
  (ho:o.op=.call { callee:=.builtin .append,args:=#[s,x],argTypes:=#[t,t] }) (hs:a.eval s=v) (hx:a.eval x=u)
  (hr:∀ ty,(Builtin.append_ #[t,t] ty #[v,u]).run P w=.ok v' w') (h:wpList P ops Q rest (a.put o.dst v') w'):wpList P ops Q (o :: rest) a w:=by
 refine wpList_plain hgd fun K hK=>?_
 unfold Oper.wp execOp
 simp only[ho,resolve,invoke,builtin,Sem.run_bind,Sem.run_pure,Result.andThen_ok,List.map_toArray,List.map_cons,List.map_nil,hs,hx,hr]
 exact hK _ _ h
end
end Go.Proofs.YtkpoodjhjfmfjaaGreatDoor
namespace Go.Proofs.YtkpoodjhjfmfjaaGreatDoor
open Go.RowKit
section
variable {α : Type} {enc : α → List Value} {T E k by_ B : Nat} {z : Value} {w w' : World} {A : Option Addr} {zs xs ys : List α} {v : Value}
theorem cellsL_set (hl:∀ x,(enc x).length=k) {j:Nat} {u:Value} {y:α} (hj:j<k):∀(xs:List α) (i:Nat) (x:α),xs[i]?=some x->enc y=(enc x).set j u->cellsL enc (xs.set i y)=(cellsL enc xs).set (i*k+j) u
 | [],i,x,h,_=>by simp at h
 | a :: xs,0,x,h,he=>by
   simp at h
   subst h
   rw[List.set_cons_zero,cellsL_cons,cellsL_cons,he,Nat.zero_mul,Nat.zero_add,List.set_append_left _ _ (by rw[hl];exact hj)]
 | a :: xs,i+1,x,h,he=>by
   have h':xs[i]?=some x:=by simpa using h
   rw[List.set_cons_succ,cellsL_cons,cellsL_cons,cellsL_set hl hj xs i x h' he,List.set_append_right _ _ (by rw[hl,Nat.add_mul];omega),hl,show(i+1)*k+j - k=i*k+j by rw[Nat.add_mul];omega]
theorem ROwn.lies (I:Elt enc T E k by_ z) (h:ROwn enc E k B w v zs) (hp:0<zs.length):∃ g cap,v=.slice (some ⟨g,0,none⟩) zs.length cap/\zs.length<=cap/\cap<=maxLen/\B<=g/\g<w.heap.size/\(∀ j,j<zs.length*k->w.frozen? ⟨g,j,none⟩=false) /\
  ∀(i:Nat) (x:α) (j:Nat) (u:Value),zs[i]?=some x->(enc x)[j]?=some u->w.cell? ⟨g,i*k+j,none⟩=some u:=by
 have hs:=h.shape I
 rcases h.2 with ⟨rfl,h0⟩|⟨g,cap,cur,rfl,hb,hg,hnc,hcm,hsz,htk⟩
 ·omega
 ·refine⟨g,cap,rfl,hnc,hcm,hb,(Array.getElem?_eq_some_iff.1 hg).1,fun j hj=>by simp[World.frozen?,hg],fun i x j u hi hu=>?_⟩
  obtain⟨A,cp,e,_,_,hR⟩:=hs
  cases e
  obtain⟨g',o,e,_,hc⟩:=hR.at_ I hi
  cases e
  have:=hc j u hu
  rwa [Nat.zero_add] at this
theorem ROwn.put (I:Elt enc T E k by_ z) {g cap:Nat} (h:ROwn enc E k B w (.slice (some ⟨g,0,none⟩) xs.length cap) xs) {i j:Nat} {x y:α} {u:Value} (hi:xs[i]?=some x) (hj:j<k) (he:enc y=(enc x).set j u) :
  ROwn enc E k B (w.setCell ⟨g,i*k+j,none⟩ u) (.slice (some ⟨g,0,none⟩) xs.length cap) (xs.set i y):=by
 have:=(World.ownsRow.stored h (i*k+j) u).1
 unfold ROwn
 rw[List.length_set,cellsL_set I.len hj xs i x hi he]
 exact this
end
section
variable {α : Type} {enc : α → List Value} {T E k by_ B : Nat} {z : Value} {w w' : World} {A : Option Addr} {zs xs ys : List α} {v : Value}
end
end Go.Proofs.YtkpoodjhjfmfjaaGreatDoor
namespace Go.Proofs.YtkpoodjhjfmfjaaGreatDoor
open Go.RowKit
def pureOp (o:Oper):Bool:=match o.op with
 | .move _|.assign _|.pick _ _ _|.build _ _|.load _ _|.nilCheck _|.binOp _ _ _ _ _|.unOp _ _ _|.convert _ _ _|.slice _ _ _ _ _|.fieldAddr _ _ _|.field _ _ _|.indexAddr _ _ _|.index _ _ _|.lookup _ _ _ _|.extract _ _=>true
 | .call c=>match c.callee with
   | .builtin .len=>true
   | .builtin .cap=>true
   | _=>false
 | _=>false
def ValOnly (s:Sem Next):Prop:=∀ P w nx w',s.run P w=.ok nx w'->∃ u,nx=.value u
theorem ValOnly.pure (u:Value):ValOnly (Pure.pure (Next.value u):Sem Next):=fun P w nx w' h=>by
 simp only[Sem.run_pure] at h;cases h;exact⟨u,rfl⟩
theorem ValOnly.bind {α:Type} (s:Sem α) (f:α->Sem Next) (h:∀ x,ValOnly (f x)):ValOnly (s >>= f):=fun P w nx w' hr=>by
 simp only[Sem.run_bind] at hr
 cases hs:s.run P w with
 | ok u w1=>rw[hs] at hr;simp only[Result.andThen_ok] at hr;exact h u _ _ _ _ hr
 | halt x w1=>rw[hs] at hr;simp[Result.andThen] at hr
theorem val_panic:ValOnly (runtimePanic .nilDeref:Sem Next):=by
 unfold runtimePanic
 refine ValOnly.bind _ _ fun p=>?_
 intro P w nx w' h
 simp[goPanic] at h
theorem pure_val {P:Program} {w w':World} {ρ:Operand->Value} {o:Oper} {nx:Next} (hp:pureOp o=true) (h:(execOp ρ o).run P w=.ok nx w'):∃ u,nx=.value u:=by
 suffices H:ValOnly (execOp ρ o) from H _ _ _ _ h
 clear h
 unfold pureOp at hp
 unfold execOp
 cases ho:o.op<;>simp only[]<;>first
  | exact ValOnly.bind _ _ fun _=>ValOnly.pure _
  | exact ValOnly.pure _
  |(exfalso;rw[ho] at hp;simp at hp;done)
  | skip
 case nilCheck x=>
  split<;>first
   | exact val_panic
   | exact ValOnly.pure _
   | skip
  split<;>first
   | exact val_panic
   | exact ValOnly.pure _
   | skip
  refine ValOnly.bind _ _ fun _=>ValOnly.bind _ _ fun _=>?_
  split
  ·exact ValOnly.bind _ _ fun _=>ValOnly.pure _
  ·exact ValOnly.pure _
 case call c=>
  rw[ho] at hp
  simp only at hp
  cases hc:c.callee<;>rw[hc] at hp<;>(try (simp at hp;done))
  rename_i b
  intro P w nx w' h
  cases b<;>(try (simp at hp;done))<;>simp only[resolve,hc,Sem.run_bind,Sem.run_pure,Result.andThen_ok,invoke,builtin] at h<;>exact ValOnly.bind _ _ (fun _=>ValOnly.pure _) P w nx w' (by simpa only [Sem.run_bind,Sem.run_pure] using h)
section
variable {P : Program} {ops : Array Oper} {md : Region.Mode} {S : World → Prop} {Q : Exit → Act → World → Prop}
theorem yieldsIf_of_in {o:Oper} {v:Value} {a:Act} (hp:pureOp o=true) (h:YieldsIn P ops S o v a):YieldsIf P ops S o v a:=by
 rcases h with ⟨hw,h⟩|h
 ·refine .inl ⟨hw,fun w hS=>?_⟩
  have h1:=h w hS
  unfold Oper.quietAt at h1
  cases hr:(execOp a.eval o).run P w with
  | halt x w'=>rw[hr] at h1;simp[Oper.quietUpon] at h1
  | ok nx w'=>
    rw[hr] at h1
    obtain⟨u,rfl⟩:=pure_val hp hr
    simp only[Oper.quietUpon] at h1
    obtain⟨rfl,rfl⟩:=h1
    rfl
 ·exact .inr h
def headM (P:Program) (md:Region.Mode) (ops:Array Oper) (S:World->Prop) (Q:Exit->Act->World->Prop) (n:Nat) (L:Array Bool->Act->World->Prop):Nat->Array Bool->Act->World->Prop
 | 0,listed,a,w=>L listed a w
 | f+1,listed,a,w=>Region.ready md ops listed≠[]/\∀ i ∈ Region.ready md ops listed,i<n/\wpOp P ops Q i (fun a' w'=>S w'/\headM P md ops S Q n L f (listed.setIfInBounds i true) a' w') a w
theorem any_of_headM {n g:Nat} {L:Array Bool->Act->World->Prop} (hL:∀ listed a w,L listed a w->wpAny P md ops Q g listed a w) :
  ∀(f:Nat) (listed:Array Bool) (a:Act) (w:World),headM P md ops S Q n L f listed a w->wpAny P md ops Q (f+g) listed a w
 | 0,listed,a,w,h=>by rw[Nat.zero_add];exact hL _ _ _ h
 | f+1,listed,a,w,h=>by
   rw[show f+1+g=(f+g)+1 by omega]
   exact⟨fun h0=>absurd h0 h.1,fun i hi=>wpOp_mono (fun a' w' h'=>any_of_headM hL f _ a' w' h'.2) (h.2 i hi).2⟩
theorem headM_first {n i:Nat} {oi:Oper} {v:Value} {L:Array Bool->Act->World->Prop} (hi:ops[i]?=some oi) (hsel:∀(j:Nat) (o:Oper) cs b,ops[j]?=some o->o.op≠.select cs b)
  (hQ:∀ c a w,Q (.panic c) (a.put oi.dst v) w->Q (.panic c) a w)
  (htw:∀ listed,HeadInv md ops n listed->∀ i,i<n->listed.getD i true=false->∀ t,n<=t->t ∉ Region.ready md ops listed) (hin:i<n) (hdone:∀ listed a w,L listed a w->∀ j ∈ Region.ready md ops listed,n<=j) :
  ∀ (f:Nat) (listed:Array Bool) (a:Act) (w:World),HeadInv md ops n listed ->
    (∀ j oj,ops[j]?=some oj->j≠i->listed.getD j true=false->(∀ e ∈ oj.after,Region.binds md e=true->e.on≠i)->oi.apart ops oj=true) ->
    i ∈ Region.ready md ops listed->YieldsIf P ops S oi v a->S w->headM P md ops S Q n L f (listed.setIfInBounds i true) (a.put oi.dst v) w->headM P md ops S Q n L (f+1) listed a w:=by
 intro f
 induction f with
 | zero=>
   intro listed a w inv _ hr hy hS H
   have hun:=(mem_ready.1 hr).1
   refine⟨fun h=>(by rw[h] at hr;cases hr),fun j hj=>?_⟩
   have hjn:j<n:=Nat.lt_of_not_le fun h=>htw _ inv i hin hun j h hj
   refine⟨hjn,?_⟩
   by_cases hji:j=i
   ·subst hji;exact hy.wpOp hi hS ⟨hS,H⟩
   ·have:=hdone _ _ _ H j (ready_mono hj hji)
    omega
 | succ f ih=>
   intro listed a w inv hfree hr hy hS H
   have hun:=(mem_ready.1 hr).1
   refine⟨fun h=>(by rw[h] at hr;cases hr),fun j hj=>?_⟩
   have hjn:j<n:=Nat.lt_of_not_le fun h=>htw _ inv i hin hun j h hj
   refine⟨hjn,?_⟩
   by_cases hji:j=i
   ·subst hji;exact hy.wpOp hi hS ⟨hS,H⟩
   ·have h1:=(H.2 j (ready_mono hj hji)).2
    obtain⟨hjun,oj,hoj,hall⟩:=mem_ready.1 hj
    have hnot:∀ e ∈ oj.after,Region.binds md e=true->e.on≠i:=fun e he hb heq=>by
     have h1:=hall e he hb
     rw[heq,getD_both hun] at h1
     cases h1
    have h2:=wpOp_putIf hoj (hfree j oj hoj hji hjun hnot) (fun cs b=>hsel i oi cs b hi) (fun cs b=>hsel j oj cs b hoj) hQ hy h1
    refine wpOp_mono (fun a' w' h3=>⟨h3.2.1,ih (listed.setIfInBounds j true) a' w' (inv.set hj hjn) (fun k ok hk hki hun' hno=>hfree k ok hk hki ?_ hno) (ready_mono hr (Ne.symm hji)) h3.1 h3.2.1 ?_⟩) h2
    ·by_cases hjk:j=k
     ·subst hjk;exact hjun
     ·rw[getD_set_ne true hjk] at hun';exact hun'
    ·rw[Array.setIfInBounds_comm _ _ hji]
     exact h3.2.2
def thenQ (Q:Exit->Act->World->Prop) (K:Act->World->Prop):Exit->Act->World->Prop
 | .normal,a,w=>K a w
 | e,a,w=>Q e a w
theorem thenQ_normal {K:Act->World->Prop} {a:Act} {w:World} (h:K a w):thenQ Q K .normal a w:=h
theorem wpOp_of_list {i:Nat} {o:Oper} {K:Act->World->Prop} {a:Act} {w:World} (hi:ops[i]?=some o) (h:wpList P ops (thenQ Q K) [o] a w):wpOp P ops Q i K a w:=by
 unfold wpOp
 simp only[hi]
 unfold wpList at h
 split
 ·rename_i hw
  rw[if_pos hw] at h
  rcases h with h|⟨h1,h2⟩
  ·left
   unfold Oper.wp at *
   generalize (execOp a.eval o).run P w=r at *
   cases r with
   | ok n w'=>
     cases n<;>simp only[Oper.upon] at h ⊢ <;>
      first
       | exact h
       | exact Calls.mono h (fun e w'' he=>by cases e<;>exact he)
       | exact Rows.mono h (fun _ _ he=>he)
   | halt x w'=>cases x<;>simp only[Oper.upon] at h ⊢<;>exact h
  ·exact .inr ⟨h1,h2⟩
 ·rename_i hw
  rw[if_neg hw] at h
  exact h
def pushAt:List Oper->Nat->List Oper->List Oper
 | [],_,r=>r
 | o :: _,0,r=>o :: r
 | _ :: l,i+1,r=>pushAt l i r
theorem pushAt_zero (o:Oper) (l r:List Oper):pushAt (o :: l) 0 r=o :: r:=rfl
theorem pushAt_succ (o:Oper) (l r:List Oper) (i:Nat):pushAt (o :: l) (i+1) r=pushAt l i r:=rfl
theorem pushAt_eq {o:Oper} (r:List Oper):∀(l:List Oper) (i:Nat),l[i]?=some o->pushAt l i r=o :: r
 | [],i,h=>by simp at h
 | a :: l,0,h=>by simp at h;subst h;rfl
 | a :: l,i+1,h=>pushAt_eq r l i (by simpa using h)
def pk (l:List Oper):List Nat->List Oper
 | []=>[]
 | i :: r=>pushAt l i (pk l r)
theorem pk_nil (l:List Oper):pk l []=[]:=rfl
theorem pk_cons (l:List Oper) (i:Nat) (r:List Nat):pk l (i :: r)=pushAt l i (pk l r):=rfl
def wpMix (P:Program) (l:List Oper) (S:World->Prop) (Q:Exit->Act->World->Prop) (T:Act->World->Prop):List (List Nat × Nat)->Act->World->Prop
 | [],a,w=>T a w
 |(seg,i) :: r,a,w=>wpQuiet P l.toArray S (fun a'=>wpList P l.toArray (thenQ Q fun a'' w''=>S w''/\wpMix P l S Q T r a'' w'') (pk l [i]) a' w) (pk l seg) a
def segB (md:Region.Mode) (l:List Oper) (n:Nat):List Nat->Array Bool->Option (Array Bool)
 | [],listed=>some listed
 | i :: r,listed=>if ((l[i]?).map pureOp).getD false && decide (i<n) && (Region.ready md l.toArray listed).contains i && Region.free md l.toArray listed i then segB md l n r (listed.setIfInBounds i true) else none
def mixB (md:Region.Mode) (l:List Oper) (n:Nat) (last:List Nat):List (List Nat × Nat)->Array Bool->Bool
 | [],listed=>match segB md l n last listed with
   | none=>false
   | some l'=>Region.seqB md l.toArray (l.length - n) n l'
 | (seg,i) :: r,listed=>match segB md l n seg listed with
   | none=>false
   | some l'=>decide (Region.ready md l.toArray l'=[i]) && decide (i<n) && mixB md l n last r (l'.setIfInBounds i true)
def cntM:List (List Nat × Nat)->Nat
 | []=>0
 |(seg,_) :: r=>seg.length+1+cntM r
def mixAll (l:List Oper) (n:Nat) (plan:List (List Nat × Nat)) (last:List Nat):Bool:=
 Region.noSelect l.toArray && (decide (n=l.length) ||(decide (n<l.length) && Region.sinkB .any l.toArray n && Region.chainB .any l.toArray n)) && decide (cntM plan+last.length=n) && mixB .any l n last plan (Array.replicate l.length false)
theorem seg_headM {l:List Oper} {n:Nat} {L:Array Bool->Act->World->Prop} (hsel:Region.noSelect l.toArray=true) (hQ:∀ c d v a w,Q (.panic c) (Act.put a d v) w->Q (.panic c) a w)
  (htw:∀ listed,HeadInv md l.toArray n listed->∀ i,i<n->listed.getD i true=false->∀ t,n<=t->t ∉ Region.ready md l.toArray listed) (hdone:∀ listed a w,L listed a w->∀ j ∈ Region.ready md l.toArray listed,n<=j) :
  ∀ (seg:List Nat) (listed l':Array Bool) (f:Nat) (K:Act->Prop) (a:Act) (w:World),HeadInv md l.toArray n listed->segB md l n seg listed=some l'->S w->wpQuiet P l.toArray S K (pk l seg) a ->
    (HeadInv md l.toArray n l'->∀ a',K a'->headM P md l.toArray S Q n L f l' a' w)->headM P md l.toArray S Q n L (seg.length+f) listed a w
 | [],listed,l',f,K,a,w,inv,hB,hS,h,hK=>by
   simp only[segB,Option.some.injEq] at hB
   subst hB
   rw[List.length_nil,Nat.zero_add]
   exact hK inv a h
 | i :: seg,listed,l',f,K,a,w,inv,hB,hS,h,hK=>by
   unfold segB at hB
   split at hB
   ·rename_i hc
    simp only[Bool.and_eq_true,decide_eq_true_eq] at hc
    obtain⟨⟨⟨hp,hin⟩,hr⟩,hf⟩:=hc
    cases ho:l[i]? with
    | none=>rw[ho] at hp;simp at hp
    | some o=>
      rw[ho] at hp
      have hp':pureOp o=true:=by simpa using hp
      have ho':l.toArray[i]?=some o:=by simpa using ho
      have hr':i ∈ Region.ready md l.toArray listed:=by simpa using hr
      have hst:qOp P l.toArray S i (wpQuiet P l.toArray S K (pk l seg)) a:=by
       unfold qOp
       simp only[ho']
       have e:pk l (i :: seg)=o :: pk l seg:=by rw[pk_cons,pushAt_eq _ _ _ ho]
       rw[e] at h
       exact h
      obtain⟨v,hy,hk⟩:=yieldsIn_of_qOp ho' hst
      rw[List.length_cons,show seg.length+1+f=(seg.length+f)+1 by omega]
      exact headM_first ho' (Region.noSelect_spec hsel) (fun c a w h=>hQ c _ _ a w h) htw hin hdone _ listed a w inv (Region.free_spec ho' hf) hr' (yieldsIf_of_in hp' hy) hS
       (seg_headM hsel hQ htw hdone seg _ l' f K _ w (inv.set hr' hin) hB hS hk hK)
   ·cases hB
theorem mix_headM {l:List Oper} {n:Nat} {last:List Nat} (hsel:Region.noSelect l.toArray=true) (hQ:∀ c d v a w,Q (.panic c) (Act.put a d v) w->Q (.panic c) a w)
  (htw:∀ listed,HeadInv md l.toArray n listed->∀ i,i<n->listed.getD i true=false->∀ t,n<=t->t ∉ Region.ready md l.toArray listed) :
  ∀ (plan:List (List Nat × Nat)) (listed:Array Bool) (a:Act) (w:World),HeadInv md l.toArray n listed->mixB md l n last plan listed=true->S w ->
    wpMix P l S Q (fun a w=>wpQuiet P l.toArray S (fun a'=>wpList P l.toArray Q (l.drop n) a' w) (pk l last) a) plan a w ->
    headM P md l.toArray S Q n (fun listed a w=>Region.seqB md l.toArray (l.length - n) n listed=true/\wpList P l.toArray Q (l.drop n) a w) (cntM plan+last.length) listed a w
 | [],listed,a,w,inv,hB,hS,h=>by
   unfold mixB at hB
   split at hB
   ·cases hB
   ·rename_i l' hl'
    have:=seg_headM (P:=P) (S:=S) (Q:=Q) (L:=fun listed a w=>Region.seqB md l.toArray (l.length - n) n listed=true/\wpList P l.toArray Q (l.drop n) a w) hsel hQ htw (fun listed a w h=>seqB_ready h.1) last listed l' 0 _ a w inv hl' hS h (fun _ a' h'=>⟨hB,h'⟩)
    simpa [cntM] using this
 | (seg,i) :: r,listed,a,w,inv,hB,hS,h=>by
   unfold mixB at hB
   split at hB
   ·cases hB
   ·rename_i l' hl'
    simp only[Bool.and_eq_true,decide_eq_true_eq] at hB
    obtain⟨⟨hr,hin⟩,hB⟩:=hB
    have:=seg_headM (P:=P) (S:=S) (Q:=Q) (L:=fun listed a w=>Region.seqB md l.toArray (l.length - n) n listed=true/\wpList P l.toArray Q (l.drop n) a w) hsel hQ htw (fun listed a w h=>seqB_ready h.1) seg listed l' (1+(cntM r+last.length)) _ a w inv hl' hS h (fun inv' a' h'=>by
     rw[Nat.add_comm 1]
     refine⟨by rw[hr];simp,fun j hj=>?_⟩
     have hj0:=hj
     rw[hr] at hj
     have hji:j=i:=by simpa using hj
     subst hji
     refine⟨hin,?_⟩
     obtain⟨_,oj,hoj,_⟩:=mem_ready.1 hj0
     have e:pk l [j]=[oj]:=by
      have:l[j]?=some oj:=by simpa using hoj
      rw[pk_cons,pushAt_eq _ _ _ this];rfl
     rw[e] at h'
     exact wpOp_mono (fun a'' w'' h3=>⟨h3.1,mix_headM hsel hQ htw r _ a'' w'' (inv'.set hj0 hin) hB h3.1 h3.2⟩) (wpOp_of_list hoj h'))
    simp only[cntM]
    rwa [show seg.length+1+cntM r+last.length=seg.length+(1+(cntM r+last.length)) by omega]
end
theorem wp_region_mix {P:Program} {id:Nat} {Q:Exit->Act->World->Prop} {a:Act} {w:World} {l:List Oper} (N n:Nat) (plan:List (List Nat × Nat)) (last:List Nat) (hm:P.follows .mixedOrders=true) (hQ:∀ c d v a w,Q (.panic c) (Act.put a d v) w->Q (.panic c) a w)
  (hB:mixAll l n plan last=true)
  (h:wpMix P l (fun w'=>∃ x:UpW N w,w'=x.w) Q (fun a w1=>wpQuiet P l.toArray (fun w'=>∃ x:UpW N w,w'=x.w) (fun a'=>wpList P l.toArray Q (l.drop n) a' w1) (pk l last) a) plan a w.drew):(Code.region id l.toArray true).wp P Q a w:=by
 simp only[mixAll,Bool.and_eq_true,Bool.or_eq_true,decide_eq_true_eq] at hB
 obtain⟨⟨⟨hsel,hn⟩,hcnt⟩,hmix⟩:=hB
 have hnl:n<=l.length:=by rcases hn with h|h<;>omega
 have inv0:HeadInv .any l.toArray n (Array.replicate l.length false):=
  ⟨by simp,fun j oj _ hl=>(by rw[getD_replicate_false] at hl;cases hl),fun t _ ht=>getD_in (by simpa using ht) (getD_replicate_false _ _)⟩
 have htw:∀ listed,HeadInv .any l.toArray n listed->∀ i,i<n->listed.getD i true=false->∀ t,n<=t->t ∉ Region.ready .any l.toArray listed:=fun listed inv i hi hun t ht hr=>by
  rcases hn with hn|⟨⟨hn,hs⟩,hc⟩
  ·obtain⟨_,ot,hot,_⟩:=mem_ready.1 hr
   have:=(Array.getElem?_eq_some_iff.1 hot).1
   simp at this
   omega
  ·exact tail_waits hs hc (by simpa using hn) inv _ i rfl hi hun t ht hr
 have H:=mix_headM (md:=.any) hsel hQ htw plan _ a w.drew inv0 hmix ⟨⟨w.drew,(Below.refl N w).drew⟩,rfl⟩ h
 refine wp_region_any hm ?_
 have key:=any_of_headM (Q:=Q) (g:=l.length - n) (fun listed a' w' hL=>by
  have:=wpAny_of_seq (md:=.any) (Q':=Q) (l.drop n) n listed a' w' (fun j=>by simp[List.getElem?_drop]) (by rw[List.length_drop];exact hL.1) hL.2
  rwa [List.length_drop] at this) _ _ _ _ H
 rw[hcnt,show n+(l.length - n)=l.toArray.size by simp;omega] at key
 simpa using key
end Go.Proofs.YtkpoodjhjfmfjaaGreatDoor
namespace Go.Proofs.YtkpoodjhjfmfjaaGreatDoor
open Go.RowKit
inductive PlanT where
 | done (last:List Nat)
 | one (seg:List Nat) (i:Nat) (r:PlanT)
 | two (seg:List Nat) (i:Nat) (r:PlanT) (j:Nat) (s:PlanT)
section
variable {P : Program} {md : Region.Mode} {S : World → Prop} {Q : Exit → Act → World → Prop}
def wpMixT (P:Program) (l:List Oper) (S:World->Prop) (Q:Exit->Act->World->Prop) (T:Act->World->Prop):PlanT->Act->World->Prop
 | .done last,a,w=>wpQuiet P l.toArray S (fun a'=>T a' w) (pk l last) a
 | .one seg i r,a,w=>wpQuiet P l.toArray S (fun a'=>wpList P l.toArray (thenQ Q fun a'' w''=>S w''/\wpMixT P l S Q T r a'' w'') (pk l [i]) a' w) (pk l seg) a
 | .two seg i r j s,a,w=>wpQuiet P l.toArray S (fun a'=>wpList P l.toArray (thenQ Q fun a'' w''=>S w''/\wpMixT P l S Q T r a'' w'') (pk l [i]) a' w/\wpList P l.toArray (thenQ Q fun a'' w''=>S w''/\wpMixT P l S Q T s a'' w'') (pk l [j]) a' w) (pk l seg) a
def cntT:PlanT->Nat
 | .done last=>last.length
 | .one seg _ r=>seg.length+1+cntT r
 | .two seg _ r _ _=>seg.length+1+cntT r
def mixTB (md:Region.Mode) (l:List Oper) (n:Nat):PlanT->Array Bool->Bool
 | .done last,listed=>match segB md l n last listed with
   | none=>false
   | some l'=>Region.seqB md l.toArray (l.length - n) n l'
 | .one seg i r,listed=>match segB md l n seg listed with
   | none=>false
   | some l'=>decide (Region.ready md l.toArray l'=[i]) && decide (i<n) && mixTB md l n r (l'.setIfInBounds i true)
 | .two seg i r j s,listed=>match segB md l n seg listed with
   | none=>false
   | some l'=>decide (Region.ready md l.toArray l'=[i,j]) && decide (i<n) && decide (j<n) && decide (cntT r=cntT s) && mixTB md l n r (l'.setIfInBounds i true) && mixTB md l n s (l'.setIfInBounds j true)
def mixTAll (l:List Oper) (n:Nat) (plan:PlanT):Bool:=
 Region.noSelect l.toArray && (decide (n=l.length) ||(decide (n<l.length) && Region.sinkB .any l.toArray n && Region.chainB .any l.toArray n)) && decide (cntT plan=n) && mixTB .any l n plan (Array.replicate l.length false)
theorem mixT_headM {l:List Oper} {n:Nat} (hsel:Region.noSelect l.toArray=true) (hQ:∀ c d v a w,Q (.panic c) (Act.put a d v) w->Q (.panic c) a w)
  (htw:∀ listed,HeadInv md l.toArray n listed->∀ i,i<n->listed.getD i true=false->∀ t,n<=t->t ∉ Region.ready md l.toArray listed) :
  ∀ (plan:PlanT) (listed:Array Bool) (a:Act) (w:World),HeadInv md l.toArray n listed->mixTB md l n plan listed=true->S w ->
    wpMixT P l S Q (fun a w=>wpList P l.toArray Q (l.drop n) a w) plan a w ->
    headM P md l.toArray S Q n (fun listed a w=>Region.seqB md l.toArray (l.length - n) n listed=true/\wpList P l.toArray Q (l.drop n) a w) (cntT plan) listed a w
 | .done last,listed,a,w,inv,hB,hS,h=>by
   unfold mixTB at hB
   split at hB
   ·cases hB
   ·rename_i l' hl'
    have:=seg_headM (P:=P) (S:=S) (Q:=Q) (L:=fun listed a w=>Region.seqB md l.toArray (l.length - n) n listed=true/\wpList P l.toArray Q (l.drop n) a w) hsel hQ htw (fun listed a w h=>seqB_ready h.1) last listed l' 0 _ a w inv hl' hS h (fun _ a' h'=>⟨hB,h'⟩)
    simpa [cntT] using this
 | .one seg i r,listed,a,w,inv,hB,hS,h=>by
   unfold mixTB at hB
   split at hB
   ·cases hB
   ·rename_i l' hl'
    simp only[Bool.and_eq_true,decide_eq_true_eq] at hB
    obtain⟨⟨hr,hin⟩,hB⟩:=hB
    have:=seg_headM (P:=P) (S:=S) (Q:=Q) (L:=fun listed a w=>Region.seqB md l.toArray (l.length - n) n listed=true/\wpList P l.toArray Q (l.drop n) a w) hsel hQ htw (fun listed a w h=>seqB_ready h.1) seg listed l' (1+cntT r) _ a w inv hl' hS h (fun inv' a' h'=>by
     rw[Nat.add_comm 1]
     refine⟨by rw[hr];simp,fun j hj=>?_⟩
     have hj0:=hj
     rw[hr] at hj
     have hji:j=i:=by simpa using hj
     subst hji
     refine⟨hin,?_⟩
     obtain⟨_,oj,hoj,_⟩:=mem_ready.1 hj0
     have e:pk l [j]=[oj]:=by
      have:l[j]?=some oj:=by simpa using hoj
      rw[pk_cons,pushAt_eq _ _ _ this];rfl
     rw[e] at h'
     exact wpOp_mono (fun a'' w'' h3=>⟨h3.1,mixT_headM hsel hQ htw r _ a'' w'' (inv'.set hj0 hin) hB h3.1 h3.2⟩) (wpOp_of_list hoj h'))
    simp only[cntT]
    rwa [show seg.length+1+cntT r=seg.length+(1+cntT r) by omega]
 | .two seg i r j s,listed,a,w,inv,hB,hS,h=>by
   unfold mixTB at hB
   split at hB
   ·cases hB
   ·rename_i l' hl'
    simp only[Bool.and_eq_true,decide_eq_true_eq] at hB
    obtain⟨⟨⟨⟨⟨hr,hin⟩,hjn⟩,hc⟩,hB⟩,hB2⟩:=hB
    have:=seg_headM (P:=P) (S:=S) (Q:=Q) (L:=fun listed a w=>Region.seqB md l.toArray (l.length - n) n listed=true/\wpList P l.toArray Q (l.drop n) a w) hsel hQ htw (fun listed a w h=>seqB_ready h.1) seg listed l' (1+cntT r) _ a w inv hl' hS h (fun inv' a' h'=>by
     rw[Nat.add_comm 1]
     refine⟨by rw[hr];simp,fun t ht=>?_⟩
     have ht0:=ht
     rw[hr] at ht
     obtain⟨_,ot,hot,_⟩:=mem_ready.1 ht0
     have e:pk l [t]=[ot]:=by
      have:l[t]?=some ot:=by simpa using hot
      rw[pk_cons,pushAt_eq _ _ _ this];rfl
     have hti:t=i\/t=j:=by simpa using ht
     rcases hti with rfl|rfl
     ·refine⟨hin,?_⟩
      have h1:=h'.1
      rw[e] at h1
      exact wpOp_mono (fun a'' w'' h3=>⟨h3.1,mixT_headM hsel hQ htw r _ a'' w'' (inv'.set ht0 hin) hB h3.1 h3.2⟩) (wpOp_of_list hot h1)
     ·refine⟨hjn,?_⟩
      have h1:=h'.2
      rw[e] at h1
      rw[hc]
      exact wpOp_mono (fun a'' w'' h3=>⟨h3.1,mixT_headM hsel hQ htw s _ a'' w'' (inv'.set ht0 hjn) hB2 h3.1 h3.2⟩) (wpOp_of_list hot h1))
    simp only[cntT]
    rwa [show seg.length+1+cntT r=seg.length+(1+cntT r) by omega]
end
theorem wp_region_mixT {P:Program} {id:Nat} {Q:Exit->Act->World->Prop} {a:Act} {w:World} {l:List Oper} (N n:Nat) (plan:PlanT) (hm:P.follows .mixedOrders=true) (hQ:∀ c d v a w,Q (.panic c) (Act.put a d v) w->Q (.panic c) a w)
  (hB:mixTAll l n plan=true)
  (h:wpMixT P l (fun w'=>∃ x:UpW N w,w'=x.w) Q (fun a w1=>wpList P l.toArray Q (l.drop n) a w1) plan a w.drew):(Code.region id l.toArray true).wp P Q a w:=by
 simp only[mixTAll,Bool.and_eq_true,Bool.or_eq_true,decide_eq_true_eq] at hB
 obtain⟨⟨⟨hsel,hn⟩,hcnt⟩,hmix⟩:=hB
 have hnl:n<=l.length:=by rcases hn with h|h<;>omega
 have inv0:HeadInv .any l.toArray n (Array.replicate l.length false):=
  ⟨by simp,fun j oj _ hl=>(by rw[getD_replicate_false] at hl;cases hl),fun t _ ht=>getD_in (by simpa using ht) (getD_replicate_false _ _)⟩
 have htw:∀ listed,HeadInv .any l.toArray n listed->∀ i,i<n->listed.getD i true=false->∀ t,n<=t->t ∉ Region.ready .any l.toArray listed:=fun listed inv i hi hun t ht hr=>by
  rcases hn with hn|⟨⟨hn,hs⟩,hc⟩
  ·obtain⟨_,ot,hot,_⟩:=mem_ready.1 hr
   have:=(Array.getElem?_eq_some_iff.1 hot).1
   simp at this
   omega
  ·exact tail_waits hs hc (by simpa using hn) inv _ i rfl hi hun t ht hr
 have H:=mixT_headM (md:=.any) hsel hQ htw plan _ a w.drew inv0 hmix ⟨⟨w.drew,(Below.refl N w).drew⟩,rfl⟩ h
 refine wp_region_any hm ?_
 have key:=any_of_headM (Q:=Q) (g:=l.length - n) (fun listed a' w' hL=>by
  have:=wpAny_of_seq (md:=.any) (Q':=Q) (l.drop n) n listed a' w' (fun j=>by simp[List.getElem?_drop]) (by rw[List.length_drop];exact hL.1) hL.2
  rwa [List.length_drop] at this) _ _ _ _ H
 rw[hcnt,show n+(l.length - n)=l.toArray.size by simp;omega] at key
 simpa using key
structure OnW (T:Nat->Prop) (w0:World) where
 w:World
 on:Only T w0 w
instance OnW.some (T:Nat->Prop) (w0:World):Nonempty (OnW T w0):=⟨⟨w0,Only.refl T w0⟩⟩
theorem wp_region_mixO {P:Program} {id:Nat} {Q:Exit->Act->World->Prop} {a:Act} {w:World} {l:List Oper} (T:Nat->Prop) (n:Nat) (plan:PlanT) (hm:P.follows .mixedOrders=true) (hQ:∀ c d v a w,Q (.panic c) (Act.put a d v) w->Q (.panic c) a w)
  (hB:mixTAll l n plan=true)
  (h:wpMixT P l (fun w'=>∃ x:OnW T w,w'=x.w) Q (fun a w1=>wpList P l.toArray Q (l.drop n) a w1) plan a w.drew):(Code.region id l.toArray true).wp P Q a w:=by
 simp only[mixTAll,Bool.and_eq_true,Bool.or_eq_true,decide_eq_true_eq] at hB
 obtain⟨⟨⟨hsel,hn⟩,hcnt⟩,hmix⟩:=hB
 have hnl:n<=l.length:=by rcases hn with h|h<;>omega
 have inv0:HeadInv .any l.toArray n (Array.replicate l.length false):=
  ⟨by simp,fun j oj _ hl=>(by rw[getD_replicate_false] at hl;cases hl),fun t _ ht=>getD_in (by simpa using ht) (getD_replicate_false _ _)⟩
 have htw:∀ listed,HeadInv .any l.toArray n listed->∀ i,i<n->listed.getD i true=false->∀ t,n<=t->t ∉ Region.ready .any l.toArray listed:=fun listed inv i hi hun t ht hr=>by
  rcases hn with hn|⟨⟨hn,hs⟩,hc⟩
  ·obtain⟨_,ot,hot,_⟩:=mem_ready.1 hr
   have:=(Array.getElem?_eq_some_iff.1 hot).1
   simp at this
   omega
  ·exact tail_waits hs hc (by simpa using hn) inv _ i rfl hi hun t ht hr
 have H:=mixT_headM (md:=.any) hsel hQ htw plan _ a w.drew inv0 hmix ⟨⟨w.drew,(Only.refl T w).drew⟩,rfl⟩ h
 refine wp_region_any hm ?_
 have key:=any_of_headM (Q:=Q) (g:=l.length - n) (fun listed a' w' hL=>by
  have:=wpAny_of_seq (md:=.any) (Q':=Q) (l.drop n) n listed a' w' (fun j=>by simp[List.getElem?_drop]) (by rw[List.length_drop];exact hL.1) hL.2
  rwa [List.length_drop] at this) _ _ _ _ H
 rw[hcnt,show n+(l.length - n)=l.toArray.size by simp;omega] at key
 simpa using key
end Go.Proofs.YtkpoodjhjfmfjaaGreatDoor
namespace Go.Proofs.YtkpoodjhjfmfjaaGreatDoor
open Go.RowKit
section
variable {α : Type} {enc : α → List Value} {T E kk by_ B : Nat} {z : Value} {w : World} {A : Option Addr} {l : List α}
end
end Go.Proofs.YtkpoodjhjfmfjaaGreatDoor
namespace Go.Proofs.YtkpoodjhjfmfjaaGreatDoor
open Go.ChangeShapes Go.WideShapes Go.Deep Go.RowKit
section
variable {H : Type} {enc : TypeId × Value → H} {W : World}
end
end Go.Proofs.YtkpoodjhjfmfjaaGreatDoor
namespace Go.Proofs.YtkpoodjhjfmfjaaGreatDoor.Ovs
open Go.RowKit
structure PropE where
 name:Int
 kind:Int
 n:Int
abbrev encP (p:PropE):List Value:=[.int .i64 p.name,.int .i64 p.kind,.int .i64 p.n]
theorem eltP:Elt encP 63 140 3 24 (.agg #[.int .i64 0,.int .i64 0,.int .i64 0]):=
 ⟨Tryz.underlying63,by kernel_rfl,rfl,by omega,fun _=>rfl,fun x u hu=>by simp at hu;rcases hu with rfl|rfl|rfl<;>rfl⟩
structure OverD where
 id:Int
 f:Int
 t:Int
 fr:Bool
 re:Bool
 ps:List PropE
structure OverE where
 id:Int
 f:Int
 t:Int
 fr:Bool
 re:Bool
 A:Option Addr
 c:Nat
 ps:List PropE
 g:Nat
def OverE.dat (x:OverE):OverD:=⟨x.id,x.f,x.t,x.fr,x.re,x.ps⟩
abbrev OverE.pv (x:OverE):Value:=.slice x.A x.ps.length x.c
abbrev encO (x:OverE):List Value:=[.int .i64 x.id,.int .i64 x.f,.int .i64 x.t,.bool x.fr,.bool x.re,.slice x.A x.ps.length x.c]
abbrev encT (x:OverE):List Value:=[.pointer (some ⟨x.g,0,none⟩)]
theorem eltT:Elt encT 200 203 1 8 (.pointer none):=
 ⟨Tryz.underlying200,by kernel_rfl,rfl,by omega,fun _=>rfl,fun x u hu=>by simp at hu;subst hu;rfl⟩
def ownB (v:Value):List Nat:=v.ownBlock.toList
theorem mem_ownB {v:Value} {k:Nat}:k ∈ ownB v ↔ v.ownBlock=some k:=by unfold ownB;simp
def OverE.foot (x:OverE):List Nat:=x.g :: ownB x.pv
structure OverIn (w:World) (x:OverE):Prop where
 blk:w.heap[x.g]?=some (.cells (encO x).toArray 151 (0,0))
 own:ROwn encP 140 3 0 w x.pv x.ps
section
variable {w w' : World} {x : OverE} {L : List OverE} {b : Nat} {pr ev nx : Int} {v : Value}
theorem OverIn.kept (h:OverIn w x) (hk:∀ k ∈ x.foot,w'.heap[k]?=w.heap[k]?):OverIn w' x:=
 ⟨(hk x.g (by unfold OverE.foot;simp)).trans h.blk,h.own.kept fun g hg=>hk g (by unfold OverE.foot;exact List.mem_cons_of_mem _ (mem_ownB.2 hg))⟩
theorem OverIn.lt (h:OverIn w x) {k:Nat} (hk:k ∈ x.foot):k<w.heap.size:=by
 unfold OverE.foot at hk
 rcases List.mem_cons.1 hk with rfl|hk
 ·exact(Array.getElem?_eq_some_iff.1 h.blk).1
 ·exact h.own.lt (mem_ownB.1 hk)
theorem OverIn.up (h:OverIn w x) (hb:Below w.heap.size w w'):OverIn w' x:=h.kept fun k hk=>hb.block k (h.lt hk)
theorem OverIn.cell (h:OverIn w x) (j:Nat) (u:Value) (hu:(encO x)[j]?=some u):w.cell? ⟨x.g,j,none⟩=some u:=by
 simp only[World.cell?,h.blk]
 simpa using hu
theorem OverIn.fz (h:OverIn w x) (j:Nat):w.frozen? ⟨x.g,j,none⟩=false:=by
 simp only[World.frozen?,h.blk];rfl
def footS (b:Nat) (v:Value) (L:List OverE):List Nat:=b ::(ownB v++L.flatMap OverE.foot)
structure OvsAt (w:World) (b:Nat) (pr ev:Int) (v:Value) (L:List OverE) (nx:Int):Prop where
 blk:w.heap[b]?=some (.cells #[.int .i64 pr,.int .i64 ev,v,.int .i64 nx,.bool true] 202 (0,0))
 own:ROwn encT 203 1 0 w v L
 ins:∀ x ∈ L,OverIn w x
 fx:∀ x ∈ L,∀ k,x.pv.ownBlock=some k->k≠x.g
 pw:L.Pairwise (fun x y=>∀ k,k ∈ x.foot->k ∉ y.foot)
 nb:∀ x ∈ L,b ∉ x.foot/\∀ k,v.ownBlock=some k->k ∉ x.foot
 vb:v.ownBlock≠some b
theorem foot_b:b ∈ footS b v L:=by unfold footS;simp
theorem foot_v {k:Nat} (h:v.ownBlock=some k):k ∈ footS b v L:=by unfold footS;exact List.mem_cons_of_mem _ (List.mem_append_left _ (mem_ownB.2 h))
theorem foot_x {k:Nat} (hx:x ∈ L) (h:k ∈ x.foot):k ∈ footS b v L:=by unfold footS;exact List.mem_cons_of_mem _ (List.mem_append_right _ (List.mem_flatMap.2 ⟨x,hx,h⟩))
theorem foot_cases {k:Nat} (h:k ∈ footS b v L):k=b\/v.ownBlock=some k\/∃ x ∈ L,k ∈ x.foot:=by
 unfold footS at h
 rcases List.mem_cons.1 h with h|h
 ·exact .inl h
 rcases List.mem_append.1 h with h|h
 ·exact .inr (.inl (mem_ownB.1 h))
 ·exact .inr (.inr (List.mem_flatMap.1 h))
theorem OvsAt.lt (h:OvsAt w b pr ev v L nx) {k:Nat} (hk:k ∈ footS b v L):k<w.heap.size:=by
 rcases foot_cases hk with rfl|hk|⟨x,hx,hk⟩
 ·exact(Array.getElem?_eq_some_iff.1 h.blk).1
 ·exact h.own.lt hk
 ·exact(h.ins x hx).lt hk
theorem OvsAt.kept (h:OvsAt w b pr ev v L nx) (hk:∀ k ∈ footS b v L,w'.heap[k]?=w.heap[k]?):OvsAt w' b pr ev v L nx:=
 ⟨(hk b foot_b).trans h.blk,h.own.kept fun g hg=>hk g (foot_v hg),fun x hx=>(h.ins x hx).kept fun k hk'=>hk k (foot_x hx hk'),h.fx,h.pw,h.nb,h.vb⟩
theorem OvsAt.up (h:OvsAt w b pr ev v L nx) (hb:Below w.heap.size w w'):OvsAt w' b pr ev v L nx:=h.kept fun k hk=>hb.block k (h.lt hk)
theorem OvsAt.cell (h:OvsAt w b pr ev v L nx) (j:Nat) (u:Value) (hu:[Value.int .i64 pr,.int .i64 ev,v,.int .i64 nx,.bool true][j]?=some u):w.cell? ⟨b,j,none⟩=some u:=by
 simp only[World.cell?,h.blk]
 simpa using hu
theorem OvsAt.fz (h:OvsAt w b pr ev v L nx) (j:Nat):w.frozen? ⟨b,j,none⟩=false:=by
 simp only[World.frozen?,h.blk];rfl
theorem OvsAt.blt (h:OvsAt w b pr ev v L nx):b<w.heap.size:=h.lt foot_b
def OPost (w:World) (b:Nat) (pr ev:Int) (v:Value) (L:List OverE) (ret:Value) (D:List OverD) (nx:Int) (e:Ending) (w':World):Prop:=
 ∃ v' L',e=.returned ret/\OvsAt w' b pr ev v' L' nx/\L'.map OverE.dat=D/\Only (· ∈ footS b v L) w w'/\∀ k ∈ footS b v' L',k ∈ footS b v L\/w.heap.size<=k
theorem OPost.same {ret:Value} (h:OvsAt w b pr ev v L nx) (hb:Below w.heap.size w w'):OPost w b pr ev v L ret (L.map OverE.dat) nx (.returned ret) w':=
 ⟨v,L,rfl,h.up hb,rfl,Only.of_below hb,fun k hk=>.inl hk⟩
theorem foot_g (x:OverE):x.g ∈ x.foot:=by unfold OverE.foot;simp
theorem cellsT_set {k:Nat} {y:OverE} (hx:L[k]?=some x) (hg:y.g=x.g):cellsL encT (L.set k y)=cellsL encT L:=by
 induction L generalizing k with
 | nil=>rfl
 | cons a L ih=>
   cases k with
   | zero=>simp at hx;subst hx;rw[List.set_cons_zero,cellsL_cons,cellsL_cons];simp[encT,hg]
   | succ k=>rw[List.set_cons_succ,cellsL_cons,cellsL_cons,ih (by simpa using hx)]
theorem OvsAt.put {k:Nat} {y:OverE} (h:OvsAt w b pr ev v L nx) (hx:L[k]?=some x) (hg:y.g=x.g) (hy:OverIn w' y) (hyx:∀ j,y.pv.ownBlock=some j->j≠y.g) (hyf:∀ j ∈ y.foot,j ∈ x.foot\/w.heap.size<=j)
  (hk:∀ j,j<w.heap.size->j ∉ x.foot->w'.heap[j]?=w.heap[j]?):OvsAt w' b pr ev v (L.set k y) nx:=by
 have hxm:=List.mem_of_getElem? hx
 obtain⟨hkl,hke⟩:=List.getElem?_eq_some_iff.1 hx
 have hin:∀ z ∈ L,∀(i:Nat),L[i]?=some z->i≠k->∀ j ∈ z.foot,j ∉ x.foot:=fun z hz i hi hne j hj hjx=>by
  obtain⟨hil,hie⟩:=List.getElem?_eq_some_iff.1 hi
  rcases Nat.lt_or_gt_of_ne hne with h1|h1
  ·have:=List.pairwise_iff_getElem.1 h.pw i k hil hkl h1
   rw[hie,hke] at this
   exact this j hj hjx
  ·have:=List.pairwise_iff_getElem.1 h.pw k i hkl hil h1
   rw[hie,hke] at this
   exact this j hjx hj
 refine⟨(hk b h.blt (h.nb x hxm).1).trans h.blk,?_,fun z hz=>?_,fun z hz=>?_,?_,fun z hz=>?_,h.vb⟩
 ·have h1:=h.own.kept (w':=w') fun g hg'=>hk g (h.own.lt hg') ((h.nb x hxm).2 g hg')
  unfold ROwn at h1 ⊢
  rw[List.length_set,cellsT_set hx hg];exact h1
 ·obtain⟨i,hi⟩:=List.mem_iff_getElem?.1 hz
  by_cases e:k=i
  ·subst e;rw[List.getElem?_set_self hkl] at hi;cases hi;exact hy
  ·rw[List.getElem?_set_ne e] at hi
   have hzm:=List.mem_of_getElem? hi
   exact(h.ins z hzm).kept fun j hj=>hk j ((h.ins z hzm).lt hj) (hin z hzm i hi (Ne.symm e) j hj)
 ·rcases List.mem_or_eq_of_mem_set hz with h1|rfl
  ·exact h.fx z h1
  ·exact hyx
 ·rw[List.pairwise_iff_getElem]
  intro i j hi hj hij
  simp only[List.length_set] at hi hj
  have hiL:L[i]?=some L[i]:=List.getElem?_eq_getElem hi
  have hjL:L[j]?=some L[j]:=List.getElem?_eq_getElem hj
  rw[List.getElem_set,List.getElem_set]
  by_cases e1:k=i
  ·have e2:¬ k=j:=by omega
   rw[if_pos e1,if_neg e2]
   intro q hq hqj
   rcases hyf q hq with h1|h1
   ·exact hin _ (List.getElem_mem hj) j hjL (Ne.symm e2) q hqj h1
   ·have:=(h.ins _ (List.getElem_mem hj)).lt hqj;omega
  ·rw[if_neg e1]
   by_cases e2:k=j
   ·rw[if_pos e2]
    intro q hq hqj
    rcases hyf q hqj with h1|h1
    ·exact hin _ (List.getElem_mem hi) i hiL (Ne.symm e1) q hq h1
    ·have:=(h.ins _ (List.getElem_mem hi)).lt hq;omega
   ·rw[if_neg e2]
    exact List.pairwise_iff_getElem.1 h.pw i j hi hj hij
 ·rcases List.mem_or_eq_of_mem_set hz with h1|rfl
  ·exact h.nb z h1
  ·refine⟨fun hb=>?_,fun q hq hqz=>?_⟩
   ·rcases hyf b hb with h1|h1
    ·exact(h.nb x hxm).1 h1
    ·have:=h.blt;omega
   ·rcases hyf q hqz with h1|h1
    ·exact(h.nb x hxm).2 q hq h1
    ·have:=h.own.lt hq;omega
def ONew (w:World) (pr ev:Int) (e:Ending) (w':World):Prop:=∃ b,e=.returned (.pointer (some ⟨b,0,none⟩))/\w.heap.size<=b/\OvsAt w' b pr ev (.slice none 0 0) [] 0/\Below w.heap.size w w'
theorem onew_any (pr ev:Int) (w:World):Calls Tryz.prog 138 #[.int .i64 pr,.int .i64 ev] w (ONew w pr ev):=by
 go_enter Tryz.func138,Tryz.ntmps138
 go_wp2
 go_ret
 exact⟨_,rfl,Nat.le_refl _,⟨(MapKept.heap_alloc w _).1,ROwn.nil _ _,by simp,by simp,List.Pairwise.nil,by simp,by simp[Value.ownBlock]⟩,below1 w _⟩
theorem ovalid (h:OvsAt w b pr ev v L nx):Calls Tryz.prog 199 #[.pointer (some ⟨b,0,none⟩)] w fun e w'=>e=.returned (.bool true)/\w=w':=by
 have c4:=h.cell 4 _ rfl
 go_enter Tryz.func199,Tryz.ntmps199
 go_wp2
 go_ret
 exact⟨rfl,rfl⟩
def placeI (a:Int):Bool:=decide (1<=a) && decide (a<=1099511627776)
set_option maxHeartbeats 400000 in
theorem place_any (a:Int) (w:World):Calls Tryz.prog 240 #[.int .i64 a] w fun e w'=>e=.returned (.bool (placeI a))/\w=w':=by
 go_enter Tryz.func240,Tryz.ntmps240
 go_wp2
 all_goals (go_ret;exact⟨ret_bool (Bool.eq_iff_iff.2 (by simp[placeI]<;>omega)),rfl⟩)
def rightI (f t:Int):Bool:=placeI f && (placeI t && decide (f<=t))
set_option maxHeartbeats 400000 in
theorem right_any (f t:Int) (w:World):Calls Tryz.prog 227 #[.int .i64 f,.int .i64 t] w fun e w'=>e=.returned (.bool (rightI f t))/\w=w':=by
 have H1:=qH (place_any f w)
 have H2:=qH (place_any t w)
 unfold rightI
 cases h1:placeI f with
 | false=>
   rw[h1] at H1
   clear h1
   go_enter Tryz.func227,Tryz.ntmps227
   go_wp2_with fail
   refine H1.out.mono ?_
   rintro e w' ⟨rfl,rfl⟩
   go_wp2_with fail
   go_ret
   exact⟨rfl,rfl⟩
 | true=>
   rw[h1] at H1
   clear h1
   cases h2:placeI t with
   | false=>
     rw[h2] at H2
     clear h2
     go_enter Tryz.func227,Tryz.ntmps227
     go_wp2_with fail
     refine H1.out.mono ?_
     rintro e w' ⟨rfl,rfl⟩
     go_wp2_with fail
     refine H2.out.mono ?_
     rintro e w' ⟨rfl,rfl⟩
     go_wp2_with fail
     go_ret
     exact⟨rfl,rfl⟩
   | true=>
     rw[h2] at H2
     clear h2
     go_enter Tryz.func227,Tryz.ntmps227
     go_wp2_with fail
     refine H1.out.mono ?_
     rintro e w' ⟨rfl,rfl⟩
     go_wp2_with fail
     refine H2.out.mono ?_
     rintro e w' ⟨rfl,rfl⟩
     go_wp2_with fail
     go_ret
     exact⟨rfl,rfl⟩
end
end Go.Proofs.YtkpoodjhjfmfjaaGreatDoor.Ovs
namespace Go.Proofs.YtkpoodjhjfmfjaaGreatDoor.Ovs
open Go.RowKit
section
variable {w w' : World} {x : OverE} {L : List OverE} {b : Nat} {pr ev nx : Int} {v : Value} {A : Option Addr}
def idxI (p:OverE->Bool) (L:List OverE):Int:=match L.findIdx? p with|some k=>k|none=>-1
def askedN (p:OverE->Bool) (L:List OverE):Nat:=match L.findIdx? p with|some k=>k+1|none=>L.length
theorem idx_some {p:OverE->Bool} {k:Nat} {x:OverE} (hx:L[k]?=some x) (hp:p x=true) (hno:∀ j,j<k->∀ y,L[j]?=some y->p y=false):L.findIdx? p=some k:=by
 obtain⟨hlt,he⟩:=List.getElem?_eq_some_iff.1 hx
 rw[List.findIdx?_eq_some_iff_getElem]
 exact⟨hlt,by rw[he];exact hp,fun j hj=>by have:=hno j hj _ (List.getElem?_eq_getElem (by omega));simpa using this⟩
theorem idx_none {p:OverE->Bool} (hno:∀ j,j<L.length->∀ y,L[j]?=some y->p y=false):L.findIdx? p=none:=by
 rw[List.findIdx?_eq_none_iff]
 intro y hy
 obtain⟨j,hj,he⟩:=List.getElem_of_mem hy
 exact hno j hj y (by rw[List.getElem?_eq_getElem hj,he])
def Enters (F:FuncId):Prop:=∀(args:Array Value) (w:World),(callFunc F args).run Tryz.prog w=.ok (.enter F args) w
theorem enters_mk {F:FuncId} {fn:Func} {c:Code} (hf:Tryz.prog.funcs[F]?=some fn) (hname:(fn.name == "runtime.NumGoroutine")=false) (hb:fn.body=some c):Enters F:=fun args w=>by
 have h1:fn.name≠"runtime.NumGoroutine":=by simpa using hname
 simp[callFunc,hf,h1,hb]
def ClosIs (F:FuncId) (caps:Array Value) (p:OverE->Bool) (L:List OverE) (Inv:List OverE->World->Prop):Prop:=
 ∀(pre:List OverE) (x:OverE) (post:List OverE) (w1:World),L=pre++x :: post->Inv pre w1->Calls Tryz.prog F (#[.pointer (some ⟨x.g,0,none⟩)]++caps) w1 fun e w2=>e=.returned (.bool (p x))/\Inv (pre++[x]) w2
def IxPost (p:OverE->Bool) (L:List OverE) (Inv:List OverE->World->Prop) (e:Ending) (w':World):Prop:=e=.returned (.int .i64 (idxI p L))/\Inv (L.take (askedN p L)) w'
set_option maxRecDepth 100000 in
set_option maxHeartbeats 1000000 in
theorem index_any {F:FuncId} {caps:Array Value} {p:OverE->Bool} {Inv:List OverE->World->Prop} (hF:Enters F) (hcl:ClosIs F caps p L Inv) (hsl:∀ pre w1,Inv pre w1->RSl encT w1 A L) (h0:Inv [] w) (c:Nat) (hl:L.length<=1000000) :
  Calls Tryz.prog 270 #[.slice A L.length c,.func (.func F) #[] caps] w (IxPost p L Inv):=by
 have HC:=qH hcl
 have hin:∀(args:Array Value) (w:World),(callFunc F args).run Tryz.prog w=.ok (.enter F args) w:=hF
 have HS:=qH hsl
 clear hcl hsl hF
 go_enter Tryz.func270,Tryz.ntmps270
 go_wp2_with fail
 go_loopw [8] (fun vi wr=>∃ k:Nat,k<=L.length/\vi=.int .i64 k/\(∀ j,j<k->∀ y,L[j]?=some y->p y=false)/\Inv (L.take k) wr) (fun vi _=>L.length -(intOf vi).toNat)
 case atStart=>exact⟨0,by omega,rfl,fun j hj=>by omega,h0⟩
 case round=>
  obtain⟨k,hk,rfl,hno,hinv⟩:=hrel
  have HNO:=qH hno
  have HI:=qH hinv
  clear hno hinv h0
  by_cases hlt:k<L.length
  ·obtain⟨x,hx⟩:∃ x,L[k]?=some x:=⟨_,List.getElem?_eq_getElem hlt⟩
   have hex:=(List.getElem?_eq_some_iff.1 hx).2
   obtain⟨g,o,hAe,hg,hcg⟩:=(HS.out _ _ HI.out).at_ eltT hx
   have k0:=hcg 0 _ rfl
   simp only[Nat.mul_one,Nat.add_zero] at k0
   have hspl:L=L.take k++x :: L.drop (k+1):=by
    rw[<-hex,<-List.drop_eq_getElem_cons hlt,List.take_append_drop]
   have htk:L.take k++[x]=L.take (k+1):=by rw[List.take_succ_eq_append_getElem hlt,hex]
   have M:=HC.out _ x _ wr hspl HI.out
   rw[htk] at M
   have HX:=qH hx
   have hlt':(k:Int)<L.length:=by omega
   subst hAe
   have MM:=qH M
   clear hx hcg M hspl htk hex
   cases hf:p x with
   | true=>
     rw[hf] at MM
     have HF:=qH hf
     clear hf
     go_wp2_with fail
     refine MM.out.mono ?_
     rintro e w' ⟨rfl,hi2⟩
     have HI2:=qH hi2
     clear hi2
     go_wp2_with fail
     go_ret
     have h1:=idx_some HX.out HF.out HNO.out
     refine⟨ret_int ?_,?_⟩
     ·unfold idxI;rw[h1]
     ·unfold askedN;rw[h1];exact HI2.out
   | false=>
     rw[hf] at MM
     have HF:=qH hf
     clear hf
     go_wp2_with fail
     refine MM.out.mono ?_
     rintro e w' ⟨rfl,hi2⟩
     have HI2:=qH hi2
     clear hi2
     go_wp2_with fail
     go_roundw
     case rel=>
      refine⟨k+1,by omega,by go_num,fun j hj y hy=>?_,HI2.out⟩
      rcases Nat.lt_or_ge j k with h1|h1
      ·exact HNO.out j h1 y hy
      ·obtain rfl:j=k:=by omega
       rw[HX.out] at hy;cases hy;exact HF.out
     case measure=>simp[intOf];omega
  ·obtain rfl:k=L.length:=by omega
   go_wp2_with fail
   go_ret
   have h1:=idx_none (p:=p) HNO.out
   refine⟨ret_int ?_,?_⟩
   ·unfold idxI;rw[h1]
   ·unfold askedN;rw[h1];exact HI.out
end
end Go.Proofs.YtkpoodjhjfmfjaaGreatDoor.Ovs
namespace Go.Proofs.YtkpoodjhjfmfjaaGreatDoor.Ovs
open Go.RowKit
section
variable {w w' : World} {x : OverE} {L : List OverE} {b : Nat} {pr ev nx : Int} {v : Value} {A : Option Addr}
end
end Go.Proofs.YtkpoodjhjfmfjaaGreatDoor.Ovs
namespace Go.Proofs.YtkpoodjhjfmfjaaGreatDoor.Ovs
open Go.RowKit
section
variable {w w' : World} {x : OverE} {L : List OverE} {b : Nat} {pr ev nx : Int} {v : Value} {A : Option Addr}
def endsD (D:List OverD) (id:Int):Option OverD:=D.find? (fun x=>x.id == id)
def withEnds (x:OverE) (f t:Int):OverE:=⟨x.id,f,t,x.fr,x.re,x.A,x.c,x.ps,x.g⟩
theorem OvsAt.ends {k:Nat} (h:OvsAt w b pr ev v L nx) (hx:L[k]?=some x) (f t:Int):OvsAt ((w.setCell ⟨x.g,1,none⟩ (.int .i64 f)).setCell ⟨x.g,2,none⟩ (.int .i64 t)) b pr ev v (L.set k (withEnds x f t)) nx:=by
 have hxm:=List.mem_of_getElem? hx
 have hin:=h.ins x hxm
 have hfx:=h.fx x hxm
 have h1:=heap_setCell_same w x.g 1 _ _ (.int .i64 f) hin.blk
 have h2:=heap_setCell_same _ x.g 2 _ _ (.int .i64 t) h1
 have ho:∀ j,j≠x.g->((w.setCell ⟨x.g,1,none⟩ (.int .i64 f)).setCell ⟨x.g,2,none⟩ (.int .i64 t)).heap[j]?=w.heap[j]?:=fun j hj=>by
  rw[Below.heap_setCell _ _ _ _ hj,Below.heap_setCell _ _ _ _ hj]
 refine h.put (y:=withEnds x f t) hx rfl ⟨h2,hin.own.kept fun g hg=>ho g (hfx g hg)⟩ hfx (fun j hj=>.inl hj) (fun j _ hj=>ho j (fun e=>hj (e▸foot_g x)))
end
end Go.Proofs.YtkpoodjhjfmfjaaGreatDoor.Ovs
namespace Go.Proofs.YtkpoodjhjfmfjaaGreatDoor.Ovs
open Go.RowKit
section
variable {w w' : World} {x : OverE} {L : List OverE} {b : Nat} {pr ev nx : Int} {v : Value} {A : Option Addr}
end
end Go.Proofs.YtkpoodjhjfmfjaaGreatDoor.Ovs
namespace Go.Proofs.YtkpoodjhjfmfjaaGreatDoor
open Go.RowKit
section
variable {w : World} {B E k : Nat} {A : Option Addr} {xs : List Value}
theorem ownsRow_take {n c:Nat} (h:w.ownsRow B E k (.slice A n c) n xs) (i:Nat) (hi:i<=n):w.ownsRow B E k (.slice A i c) i (xs.take (i*k)):=by
 have hik:i*k<=n*k:=Nat.mul_le_mul_right k hi
 refine⟨by rw[List.length_take,h.1];omega,?_⟩
 rcases h.2 with ⟨e,h0⟩|⟨g,cap,cur,e,hb,hg,hnc,hcm,hsz,htk⟩
 ·cases e
  obtain rfl:i=0:=by omega
  exact .inl ⟨rfl,rfl⟩
 ·cases e
  refine .inr ⟨g,c,cur,rfl,hb,hg,by omega,hcm,hsz,?_⟩
  rw[<-htk,List.take_take]
  congr 1;omega
theorem ownsRow_setCells {g n cap:Nat}:∀(vs:List Value) (o:Nat) (w:World) (xs:List Value),w.ownsRow B E k (.slice (some ⟨g,0,none⟩) n cap) n xs ->
  ∃ ys,(w.setCells g o vs).ownsRow B E k (.slice (some ⟨g,0,none⟩) n cap) n ys/\ys.take o=xs.take o/\Only (·=g) w (w.setCells g o vs)
 | [],o,w,xs,h=>⟨xs,h,rfl,Only.refl _ _⟩
 | u :: vs,o,w,xs,h=>by
   obtain⟨h1,h2⟩:=World.ownsRow.stored h o u
   obtain⟨ys,h3,h4,h5⟩:=ownsRow_setCells vs (o+1) _ _ h1
   refine⟨ys,h3,?_,(Only.of_grown (S:=(·=g)) h2 rfl).trans h5⟩
   have:=congrArg (List.take o) h4
   rw[List.take_take,List.take_take,Nat.min_eq_left (by omega)] at this
   rw[this,List.take_set_of_le (by omega)]
end
section
variable {α : Type} {enc : α → List Value} {T E k by_ B : Nat} {z : Value} {w : World} {zs : List α}
theorem ROwn.cut (I:Elt enc T E k by_ z) {A:Option Addr} {n c:Nat} (h:ROwn enc E k B w (.slice A n c) zs) (hn:n=zs.length) (i:Nat) (hi:i<=n):ROwn enc E k B w (.slice A i c) (zs.take i):=by
 subst hn
 have:=ownsRow_take h i hi
 unfold ROwn
 rw[List.length_take,Nat.min_eq_left hi,cellsL_take I.len zs i hi]
 exact this
theorem clear_own (I:Elt enc T E k by_ z) (hv:∀ w,(zeroValue E).run Tryz.prog w=.ok z w) (ho:∀ u ∈ z.cells.toList,u.oneCell'=true) {g cap:Nat} (h:ROwn enc E k B w (.slice (some ⟨g,0,none⟩) zs.length cap) zs) {i:Nat} (hi:i<zs.length) (c:Nat) :
  ∃ w',(∀ ty,(Builtin.clear_ #[T] ty #[.slice (some ⟨g,i*k,none⟩) (zs.length - i) c]).run Tryz.prog w=.ok (.tuple #[]) w')/\ROwn enc E k B w' (.slice (some ⟨g,0,none⟩) i cap) (zs.take i)/\Only (·=g) w w':=by
 obtain⟨g',cap',e,_,_,_,_,hfz,hcs⟩:=h.lies I (by omega)
 cases e
 have hlen:∀ m,(Builtin.zeroCells z.cells m).toList.length=m*k:=fun m=>by
  simp[Builtin.zeroCells,I.zs,Nat.mul_comm]
 have hone:∀ m,∀ u ∈ (Builtin.zeroCells z.cells m).toList,u.oneCell'=true:=fun m u hu=>by
  apply ho
  simp only[Builtin.zeroCells,Array.mem_toList_iff,Array.mem_map] at hu ⊢
  obtain⟨q,_,rfl⟩:=hu
  have h0:0<z.cells.size:=by rw[I.zs];exact I.k0
  rw[getElem!_pos z.cells _ (Nat.mod_lt _ h0)]
  exact Array.getElem_mem _
 have hmul:i*k+(zs.length - i)*k=zs.length*k:=by rw[<-Nat.add_mul];congr 1;omega
 have hf:∀ j,j<(zs.length - i)*k->w.frozen? ⟨g,i*k+j,none⟩=false:=fun j hj=>hfz _ (by omega)
 have hc:∀ j,j<(zs.length - i)*k->(w.cell? ⟨g,i*k+j,none⟩).isSome=true:=fun j hj=>by
  have hk0:=I.k0
  have hjk:i*k+j<zs.length*k:=by omega
  have hq:(i*k+j) / k<zs.length:=Nat.div_lt_of_lt_mul (by rw[Nat.mul_comm k];exact hjk)
  have hr:=Nat.mod_lt (i*k+j) hk0
  have hm:(i*k+j) / k*k+(i*k+j) % k=i*k+j:=by rw[Nat.mul_comm];exact Nat.div_add_mod _ _
  have hx:zs[(i*k+j) / k]?=some zs[(i*k+j) / k]:=List.getElem?_eq_getElem hq
  have hu:(enc zs[(i*k+j) / k])[(i*k+j) % k]?=some ((enc zs[(i*k+j) / k])[(i*k+j) % k]'(by rw[I.len];exact hr)):=List.getElem?_eq_getElem _
  have:=hcs _ _ _ _ hx hu
  rw[hm] at this
  rw[this];rfl
 have hst:=run_storeCells_cells (P:=Tryz.prog) g (i*k) (Builtin.zeroCells z.cells (zs.length - i)).toList 0 w (by rw[hlen];simpa using hc) (by rw[hlen];simpa using hf) (hone _)
 simp only[Nat.add_zero] at hst
 obtain⟨ys,h1,h2,h3⟩:=ownsRow_setCells (Builtin.zeroCells z.cells (zs.length - i)).toList (i*k) w _ h
 refine⟨_,fun ty=>?_,?_,h3⟩
 ·obtain⟨m,hm⟩:∃ m,zs.length - i=m+1:=⟨zs.length - i - 1,by omega⟩
  rw[hm] at hst ⊢
  simp[Builtin.clear_,run_underlying I.ht,hv,hst]
 ·have h4:=ownsRow_take h1 i (by omega)
  unfold ROwn
  rw[List.length_take,Nat.min_eq_left (by omega),cellsL_take I.len zs i (by omega),<-h2]
  exact h4
end
end Go.Proofs.YtkpoodjhjfmfjaaGreatDoor
namespace Go.Proofs.YtkpoodjhjfmfjaaGreatDoor.Ovs
open Go.RowKit
section
variable {w w' : World} {x : OverE} {L : List OverE} {b : Nat} {pr ev nx : Int} {v : Value} {A : Option Addr}
theorem zeroT (w:World):(zeroValue 203).run Tryz.prog w=.ok (.pointer none) w:=by kernel_rfl
def ClosKeeps (F:FuncId) (caps:Array Value) (p:OverE->Bool) (L:List OverE) (v:Value) (Inv:List OverE->World->Prop):Prop:=
 ∀(pre:List OverE) (x:OverE) (post:List OverE) (w1:World),L=pre++x :: post->Inv pre w1->Calls Tryz.prog F (#[.pointer (some ⟨x.g,0,none⟩)]++caps) w1 fun e w2=>e=.returned (.bool (p x))/\Inv (pre++[x]) w2/\∀ g,v.ownBlock=some g->w2.heap[g]?=w1.heap[g]?
def DelPost (v:Value) (p:OverE->Bool) (L:List OverE) (Inv:List OverE->World->Prop) (e:Ending) (w':World):Prop:=
 ∃ v',e=.returned v'/\ROwn encT 203 1 0 w' v' (L.filter (fun x=>!p x))/\Inv L w'/\v'.ownBlock=v.ownBlock
theorem filter_take_idx {p:OverE->Bool} {k:Nat} (h:L.findIdx? p=some k):(L.take (k+1)).filter (fun x=>!p x)=L.take k:=by
 obtain⟨hk,hp,hno⟩:=List.findIdx?_eq_some_iff_getElem.1 h
 rw[List.take_succ_eq_append_getElem hk,List.filter_append]
 have h1:(L.take k).filter (fun x=>!p x)=L.take k:=by
  rw[List.filter_eq_self]
  intro y hy
  obtain⟨j,hj,he⟩:=List.getElem_of_mem hy
  simp only[List.length_take] at hj
  have:=hno j (by omega)
  simp at he
  rw[<-he];simpa using this
 rw[h1];simp[hp]
theorem filter_none {p:OverE->Bool} (h:L.findIdx? p=none):L.filter (fun x=>!p x)=L:=by
 rw[List.filter_eq_self]
 rw[List.findIdx?_eq_none_iff] at h
 intro y hy;simpa using h y hy
set_option maxRecDepth 100000 in
set_option maxHeartbeats 2000000 in
theorem delete_any {F:FuncId} {caps:Array Value} {p:OverE->Bool} {Inv:List OverE->World->Prop} (hF:Enters F) (n c:Nat) (hn:n=L.length) (hown:ROwn encT 203 1 0 w (.slice A n c) L) (hcl:ClosKeeps F caps p L (.slice A n c) Inv)
  (hst:∀ pre w1 w2,Inv pre w1->Only (fun k=>(Value.slice A n c).ownBlock=some k) w1 w2->Inv pre w2) (h0:Inv [] w) (hl:L.length<=1000000) :
  Calls Tryz.prog 229 #[.slice A n c,.func (.func F) #[] caps] w (DelPost (.slice A n c) p L Inv):=by
 subst hn
 have hIX:=index_any (w:=w) (A:=A) (p:=p) (L:=L) hF (Inv:=fun pre w1=>Inv pre w1/\ROwn encT 203 1 0 w1 (.slice A L.length c) L)
  (fun pre x post w1 hL hi=>(hcl pre x post w1 hL hi.1).mono fun e w2 ⟨he,h1,h2⟩=>⟨he,h1,hi.2.kept h2⟩)
  (fun pre w1 hi=>by obtain⟨A',c',e,_,_,hr⟩:=hi.2.shape eltT;cases e;exact hr) ⟨h0,hown⟩ c hl
 have HIX:=qH hIX
 have HC:=qH hcl
 have HST:=qH hst
 have hin:∀(args:Array Value) (w:World),(callFunc F args).run Tryz.prog w=.ok (.enter F args) w:=hF
 clear hIX hcl hst hF h0 hown
 go_enter Tryz.func229,Tryz.ntmps229
 go_wp2_with fail
 refine HIX.out.mono ?_
 rintro e w1 ⟨rfl,hinv,hown⟩
 cases hi:L.findIdx? p with
 | none=>
   have hix:idxI p L=-1:=by unfold idxI;rw[hi]
   have hak:askedN p L=L.length:=by unfold askedN;rw[hi]
   rw[hak,List.take_of_length_le (Nat.le_refl _)] at hinv
   rw[hix]
   have HI:=qH hinv
   have HO:=qH hown
   have HN:=qH (filter_none hi)
   clear hinv hown hi hix hak
   go_wp2_with fail
   go_ret
   exact⟨_,rfl,by rw[HN.out];exact HO.out,HI.out,rfl⟩
 | some i0=>
   have hix:idxI p L=i0:=by unfold idxI;rw[hi]
   have hak:askedN p L=i0+1:=by unfold askedN;rw[hi]
   have hil:=(List.findIdx?_eq_some_iff_getElem.1 hi).1
   rw[hak] at hinv
   rw[hix]
   obtain⟨g,cap,e,hc1,hc2,_,_,_,_⟩:=hown.lies eltT (by omega)
   cases e
   have hft:=filter_take_idx hi
   have HI:=qH hinv
   have HO:=qH hown
   have HFT:=qH hft
   have hne:((i0:Int) == -1)=false:=beq_eq_false_iff_ne.2 (by omega)
   unfold maxLen at hc2
   clear hinv hown hi hix hak hft
   go_wp2_with fail
   go_loopw [5,6] (fun vi vj wr=>∃(i k:Nat) (M:List OverE),i<k/\k<=L.length/\vi=.int .i64 i/\vj=.int .i64 k/\M.length=L.length/\M.take i=(L.take k).filter (fun x=>!p x)/\M.drop k=L.drop k/\ROwn encT 203 1 0 wr (.slice (some ⟨g,0,none⟩) L.length c) M/\Inv (L.take k) wr) (fun _ vj _=>L.length -(intOf vj).toNat)
   case atStart=>exact⟨i0,i0+1,L,by omega,by omega,rfl,by go_num,rfl,HFT.out.symm,rfl,HO.out,HI.out⟩
   case round=>
    obtain⟨i,k,M,hik,hk,rfl,rfl,hM,htk,hdr,hown,hinv⟩:=hrel
    have HTK:=qH htk
    have HDR:=qH hdr
    have HMM:=qH hM
    have HI2:=qH hinv
    have HO2:=qH hown
    clear htk hdr hinv
    by_cases hlt:k<L.length
    ·obtain⟨x,hx⟩:∃ x,L[k]?=some x:=⟨_,List.getElem?_eq_getElem hlt⟩
     have hex:=(List.getElem?_eq_some_iff.1 hx).2
     have hxM:M[k]?=some x:=by
      have:=congrArg (fun l=>l[0]?) HDR.out
      simp only[List.getElem?_drop,Nat.add_zero] at this
      rw[this];exact hx
     have hownM:ROwn encT 203 1 0 wr (.slice (some ⟨g,0,none⟩) M.length c) M:=by rw[hM];exact hown
     obtain⟨g',cap',e,_,_,_,_,hfz,hcs⟩:=hownM.lies eltT (by omega)
     cases e
     have k0:=hcs k x 0 _ hxM rfl
     simp only[Nat.mul_one,Nat.add_zero] at k0
     have hspl:L=L.take k++x :: L.drop (k+1):=by
      rw[<-hex,<-List.drop_eq_getElem_cons hlt,List.take_append_drop]
     have htk1:L.take k++[x]=L.take (k+1):=by rw[List.take_succ_eq_append_getElem hlt,hex]
     have M1:=HC.out _ x _ wr hspl HI2.out
     rw[htk1] at M1
     have HX:=qH hx
     have HT1:=qH htk1
     have hlt':(k:Int)<L.length:=by omega
     have MM:=qH M1
     have hdr1:M.drop (k+1)=L.drop (k+1):=by
      have:=congrArg (List.drop 1) HDR.out
      rw[List.drop_drop,List.drop_drop] at this
      exact this
     have HD1:=qH hdr1
     clear hx hcs M1 hspl htk1 hex hxM hdr1 hown hM hfz hownM
     cases hf:p x with
     | true=>
       rw[hf] at MM
       have HF:=qH hf
       clear hf
       go_wp2_with fail
       refine MM.out.mono ?_
       rintro e w2 ⟨rfl,hi2,hg2⟩
       have HI3:=qH hi2
       have HO3:=qH (HO2.out.kept hg2)
       clear hi2 hg2
       go_wp2_with fail
       go_roundw
       case rel=>exact⟨i,k+1,M,by omega,by omega,rfl,by go_num,HMM.out,by rw[HTK.out,<-HT1.out,List.filter_append];simp[HF.out],HD1.out,HO3.out,HI3.out⟩
       case measure=>simp[intOf];omega
     | false=>
       rw[hf] at MM
       have HF:=qH hf
       clear hf
       go_wp2_with fail
       refine MM.out.mono ?_
       rintro e w2 ⟨rfl,hi2,hg2⟩
       have ho3:=HO2.out.kept hg2
       have hMl:=HMM.out
       obtain⟨yi,hiM⟩:∃ y,M[i]?=some y:=⟨_,List.getElem?_eq_getElem (by omega)⟩
       have ho3M:ROwn encT 203 1 0 w2 (.slice (some ⟨g,0,none⟩) M.length c) M:=by rw[hMl];exact ho3
       obtain⟨g',cap',e,_,_,_,_,hfz,hcs⟩:=ho3M.lies eltT (by omega)
       cases e
       have d0:=hcs i _ 0 _ hiM rfl
       have z0:=hfz i (by omega)
       simp only[Nat.mul_one,Nat.add_zero] at d0
       have hput:ROwn encT 203 1 0 (w2.setCell ⟨g,i,none⟩ (.pointer (some ⟨x.g,0,none⟩))) (.slice (some ⟨g,0,none⟩) L.length c) (M.set i x):=by
        have h1:ROwn encT 203 1 0 w2 (.slice (some ⟨g,0,none⟩) M.length c) M:=by rw[hMl];exact ho3
        have:=h1.put eltT hiM (j:=0) (y:=x) (u:=.pointer (some ⟨x.g,0,none⟩)) (by omega) rfl
        rw[hMl] at this
        simpa using this
       have hi4:=HST.out _ _ (w2.setCell ⟨g,i,none⟩ (.pointer (some ⟨x.g,0,none⟩))) hi2 ((Only.refl (fun k=>(Value.slice (some ⟨g,0,none⟩) L.length c).ownBlock=some k) w2).setCell (p:=⟨g,i,none⟩) rfl _)
       have HI3:=qH hi4
       have HO3:=qH hput
       have hi64:(i:Int)<L.length:=by omega
       clear hi2 hg2 hput hi4 ho3 hMl hiM hfz hcs ho3M
       go_wp2_with fail
       go_roundw
       case rel=>
        refine⟨i+1,k+1,M.set i x,by omega,by omega,by go_num,by go_num,by rw[List.length_set];exact HMM.out,?_,?_,HO3.out,HI3.out⟩
        ·rw[<-HT1.out,List.filter_append,<-HTK.out]
         have hiM2:i<M.length:=by have:=HMM.out;omega
         rw[List.take_succ_eq_append_getElem (by rw[List.length_set];exact hiM2),List.take_set_of_le (Nat.le_refl _)]
         simp[HF.out]
        ·rw[List.drop_set_of_lt (by omega)];exact HD1.out
       case measure=>simp[intOf];omega
    ·obtain rfl:k=L.length:=by omega
     have hMl:=HMM.out
     have h1:ROwn encT 203 1 0 wr (.slice (some ⟨g,0,none⟩) M.length c) M:=by rw[hMl];exact HO2.out
     obtain⟨w3,hrun,ho3,hon⟩:=clear_own eltT zeroT (fun u hu=>by simp[Value.cells] at hu;subst hu;rfl) h1 (i:=i) (by omega) (c - i)
     rw[hMl,Nat.mul_one] at hrun
     have hi3:=HST.out _ _ w3 HI2.out (hon.mono (fun k e=>by subst e;rfl))
     have HI3:=qH hi3
     have HO3:=qH ho3
     have hci:(c == i)=false:=by simp;omega
     have hci':¬ c=i:=by omega
     have hci2:(i:Int)<=c:=by omega
     have hci3:(i:Int)<=L.length:=by omega
     clear hi3 ho3 hon h1 hMl hM hown hlt
     go_wp2_with fail
     go_ret
     refine⟨_,rfl,?_,?_,rfl⟩
     ·have h2:=HO3.out
      rw[HTK.out,List.take_of_length_le (Nat.le_refl _)] at h2
      exact h2
     ·have h2:=HI3.out
      rw[List.take_of_length_le (Nat.le_refl _)] at h2
      exact h2
end
end Go.Proofs.YtkpoodjhjfmfjaaGreatDoor.Ovs
namespace Go.Proofs.YtkpoodjhjfmfjaaGreatDoor.Ovs
open Go.RowKit
section
variable {w w' : World} {x : OverE} {L L' : List OverE} {b : Nat} {pr ev nx : Int} {v v' : Value} {A : Option Addr}
theorem foot_sub (hs:L'.Sublist L) (hv:v'.ownBlock=v.ownBlock):∀ k ∈ footS b v' L',k ∈ footS b v L:=by
 intro k hk
 rcases foot_cases hk with rfl|h1|⟨x,hx,h1⟩
 ·exact foot_b
 ·exact foot_v (by rw[<-hv];exact h1)
 ·exact foot_x (hs.subset hx) h1
end
end Go.Proofs.YtkpoodjhjfmfjaaGreatDoor.Ovs
namespace Go.Proofs.YtkpoodjhjfmfjaaGreatDoor.Ovs
open Go.RowKit
section
variable {w w' : World} {x : OverE} {L L' : List OverE} {b : Nat} {pr ev nx : Int} {v v' : Value} {A : Option Addr} {ps : List PropE}
def cmpI (x y:Int):Int:=if x<y then -1 else if y<x then 1 else 0
set_option maxHeartbeats 400000 in
theorem isnan_any (x:Int) (w:World):Calls Tryz.prog 266 #[.int .i64 x] w fun e w'=>e=.returned (.bool false)/\w=w':=by
 have hne:(x != x)=false:=by simp
 go_enter Tryz.func266,Tryz.ntmps266
 go_wp2
 go_ret
 exact⟨rfl,rfl⟩
set_option maxHeartbeats 400000 in
theorem cmp_any (x y:Int) (w:World):Calls Tryz.prog 218 #[.int .i64 x,.int .i64 y] w fun e w'=>e=.returned (.int .i64 (cmpI x y))/\w=w':=by
 go_enter Tryz.func218,Tryz.ntmps218
 go_wp2_with (go_at_call 266;refine(isnan_any _ _).mono ?_;rintro e w' ⟨rfl,rfl⟩)
 all_goals (go_ret;exact⟨ret_int (by unfold cmpI;omega),rfl⟩)
structure BelD (B:Nat) (w w':World):Prop extends Below B w w' where
 dr:w.drawn<=w'.drawn
theorem BelD.refl (B:Nat) (w:World):BelD B w w:=⟨Below.refl _ _,Nat.le_refl _⟩
theorem BelD.trans {B:Nat} {a b c:World} (h:BelD B a b) (k:BelD B b c):BelD B a c:=⟨h.toBelow.trans k.toBelow,Nat.le_trans h.dr k.dr⟩
theorem BelD.mono {B B':Nat} {a b:World} (h:BelD B a b) (hB:B'<=B):BelD B' a b:=⟨h.toBelow.mono hB,h.dr⟩
theorem BelD.setCell {B:Nat} {a b:World} (h:BelD B a b) {p:Addr} (hp:B<=p.block) (u:Value):BelD B a (b.setCell p u):=⟨h.toBelow.setCell hp u,h.dr⟩
theorem BelD.alloc {B:Nat} {a b:World} (h:BelD B a b) (hb:B<=b.heap.size) (o:Obj):BelD B a (b.alloc o):=⟨h.toBelow.alloc hb o,h.dr⟩
theorem up2D {w w1 w2:World} (h:BelD w.heap.size w w1) (k:BelD w1.heap.size w1 w2):BelD w.heap.size w w2:=h.trans (k.mono h.size)
theorem below1D (w:World) (a:Obj):BelD w.heap.size w (w.alloc a):=(BelD.refl _ w).alloc (Nat.le_refl _) _
set_option maxHeartbeats 400000 in
theorem seekC (p:PropE) (nm:Int) (w:World):Calls Tryz.prog 278 #[.agg #[.int .i64 p.name,.int .i64 p.kind,.int .i64 p.n],.int .i64 nm] w fun e w'=>e=.returned (.int .i64 (cmpI p.name nm))/\BelD w.heap.size w w':=by
 go_enter Tryz.func278,Tryz.ntmps278
 go_wp2_with fail
 refine(cmp_any _ _ _).mono ?_
 rintro e w' ⟨rfl,rfl⟩
 go_wp2_with fail
 go_ret
 exact⟨rfl,below1D _ _⟩
def ixP (ps:List PropE) (nm:Int):Nat:=(ps.takeWhile (fun p=>decide (p.name<nm))).length
def isP (ps:List PropE) (nm:Int):Bool:=match ps[ixP ps nm]? with|some p=>p.name == nm|none=>false
theorem ixP_eq:∀(l:List PropE) (c:Int) (k:Nat),k<=l.length->(∀ j x,j<k->l[j]?=some x->x.name<c)->(∀ x,l[k]?=some x->¬ x.name<c)->ixP l c=k
 | [],c,k,hk,_,_=>by simp at hk;subst hk;rfl
 | a :: l,c,0,hk,_,h=>by
   have:=h a rfl
   unfold ixP
   rw[List.takeWhile_cons,if_neg (by simpa using this)];rfl
 | a :: l,c,k+1,hk,h1,h2=>by
   have h0:=h1 0 a (by omega) rfl
   have ih:=ixP_eq l c k (by simpa using hk) (fun j x hj hx=>h1 (j+1) x (by omega) hx) h2
   unfold ixP at ih ⊢
   rw[List.takeWhile_cons,if_pos (by simpa using h0),List.length_cons,ih]
def SortedP (ps:List PropE):Prop:=(ps.map PropE.name).Pairwise (·<·)
theorem SortedP.lt (h:SortedP ps) {i j:Nat} {p q:PropE} (hi:ps[i]?=some p) (hj:ps[j]?=some q) (hij:i<j):p.name<q.name:=by
 obtain⟨hil,hie⟩:=List.getElem?_eq_some_iff.1 hi
 obtain⟨hjl,hje⟩:=List.getElem?_eq_some_iff.1 hj
 have:=List.pairwise_iff_getElem.1 h i j (by simpa using hil) (by simpa using hjl) hij
 simpa [hie,hje] using this
set_option maxRecDepth 100000 in
set_option maxHeartbeats 1000000 in
theorem bsearch (hs:SortedP ps) (h:RSl encP w A ps) (nm:Int) (c:Nat) (hl:ps.length<=1000000) :
  Calls Tryz.prog 277 #[.slice A ps.length c,.int .i64 nm,.func (.func 278) #[] #[]] w fun e w'=>e=.returned (.tuple #[.int .i64 (ixP ps nm),.bool (isP ps nm)])/\BelD w.heap.size w w':=by
 have HS:=qH hs
 have HH:=qH h
 clear hs h
 go_enter Tryz.func277,Tryz.ntmps277
 go_wp2_with fail
 go_loopw [9,10] (fun vi vj wr=>∃ i j:Nat,i<=j/\j<=ps.length/\vi=.int .i64 i/\vj=.int .i64 j/\(∀ t p,t<i->ps[t]?=some p->p.name<nm)/\(∀ t p,j<=t->ps[t]?=some p->nm<=p.name)/\BelD w.heap.size w wr) (fun vi vj _=>(intOf vj).toNat -(intOf vi).toNat)
 case atStart=>exact⟨0,ps.length,by omega,by omega,rfl,rfl,fun t p ht=>by omega,(fun t p ht hp=>by rw[List.getElem?_eq_none (by omega)] at hp;cases hp),BelD.refl _ _⟩
 case round=>
  obtain⟨i,j,hij,hj,rfl,rfl,h1,h2,hbel⟩:=hrel
  have H1:=qH h1
  have H2:=qH h2
  have HB:=qH hbel
  clear h1 h2 hbel
  by_cases hlt:i<j
  ·have hlt':(i:Int)<j:=by omega
   have d0:decide ((i:Int)<j)=true:=decide_eq_true hlt'
   have hm1:i<=(i+j) / 2:=by omega
   have hm2:(i+j) / 2<j:=by omega
   obtain⟨⟨pn,pk,pv⟩,hx⟩:∃ x,ps[(i+j) / 2]?=some x:=⟨_,List.getElem?_eq_getElem (by omega)⟩
   obtain⟨g,o,hAe,hg,hc⟩:=(HH.out.up HB.out.toBelow).at_ eltP hx
   have e0:=hc 0 _ rfl
   have e1:=hc 1 _ rfl
   have e2:=hc 2 _ rfl
   simp only[<-Nat.add_assoc,Nat.add_zero] at e0 e1 e2
   have HX:=qH hx
   have hmc:(((i+j) / 2:Nat):Int)<ps.length:=by omega
   subst hAe
   clear hc hx
   have HC:=qH (seekC ⟨pn,pk,pv⟩ nm wr)
   by_cases hpn:pn<nm
   ·have hcm:cmpI pn nm=-1:=by unfold cmpI;rw[if_pos hpn]
    simp only[hcm] at HC
    clear hcm
    go_wp2_with fail
    refine HC.out.mono ?_
    rintro e w2 ⟨rfl,hb⟩
    have HB2:=qH (up2D HB.out hb)
    clear hb e0 e1 e2
    go_wp2_with fail
    go_roundw
    case rel=>
     refine⟨(i+j) / 2+1,j,by omega,by omega,by go_num,rfl,fun t p ht hp=>?_,H2.out,HB2.out⟩
     rcases Nat.lt_or_ge t ((i+j) / 2) with h3|h3
     ·have h4:=HS.out.lt hp HX.out h3;dsimp only at h4;omega
     ·obtain rfl:t=(i+j) / 2:=by omega
      rw[HX.out] at hp;cases hp;exact hpn
    case measure=>simp[intOf];omega
   ·have hcm:(0:Int)<=cmpI pn nm:=by unfold cmpI;rw[if_neg hpn];split<;>omega
    have HN:=qH (show nm<=pn by omega)
    have hcd:decide (cmpI pn nm<(0:Int))=false:=decide_eq_false (by omega)
    generalize cmpI pn nm=z at *
    clear hcm hpn
    go_wp2_with fail
    refine HC.out.mono ?_
    rintro e w2 ⟨rfl,hb⟩
    have HB2:=qH (up2D HB.out hb)
    clear hb e0 e1 e2
    go_wp2_with fail
    go_roundw
    case rel=>
     refine⟨i,(i+j) / 2,by omega,by omega,rfl,by go_num,H1.out,fun t p ht hp=>?_,HB2.out⟩
     rcases Nat.lt_or_ge ((i+j) / 2) t with h3|h3
     ·have h4:=HS.out.lt HX.out hp h3;have h5:=HN.out;dsimp only at h4;omega
     ·obtain rfl:t=(i+j) / 2:=by omega
      rw[HX.out] at hp;cases hp;exact HN.out
    case measure=>simp[intOf];omega
  ·obtain rfl:i=j:=by omega
   have hix:=ixP_eq ps nm i hj (fun t p ht hp=>H1.out t p ht hp) (fun p hp=>by have:=H2.out i p (by omega) hp;omega)
   by_cases hlt:i<ps.length
   ·have d1:decide ((i:Int)<ps.length)=true:=decide_eq_true (by omega)
    obtain⟨⟨pn,pk,pv⟩,hx⟩:∃ x,ps[i]?=some x:=⟨_,List.getElem?_eq_getElem (by omega)⟩
    obtain⟨g,o,hAe,hg,hc⟩:=(HH.out.up HB.out.toBelow).at_ eltP hx
    have e0:=hc 0 _ rfl
    have e1:=hc 1 _ rfl
    have e2:=hc 2 _ rfl
    simp only[<-Nat.add_assoc,Nat.add_zero] at e0 e1 e2
    have his:isP ps nm=(cmpI pn nm == 0):=by
     unfold isP;rw[hix,hx]
     show(pn == nm)=_
     rw[Bool.eq_iff_iff,beq_iff_eq,beq_iff_eq];unfold cmpI;split<;>(try split)<;>omega
    have HE:=qH (And.intro hix his)
    have HC:=qH (seekC ⟨pn,pk,pv⟩ nm wr)
    have hmc:(i:Int)<ps.length:=by omega
    generalize cmpI pn nm=z at *
    subst hAe
    clear hc hx hix his
    go_wp2_with fail
    refine HC.out.mono ?_
    rintro e w2 ⟨rfl,hb⟩
    have HB2:=qH (up2D HB.out hb)
    clear hb e0 e1 e2
    go_wp2_with fail
    go_ret2
    exact⟨by rw[HE.out.1,HE.out.2];rfl,HB2.out⟩
   ·have d1:decide ((i:Int)<ps.length)=false:=decide_eq_false (by omega)
    have his:isP ps nm=false:=by unfold isP;rw[hix,List.getElem?_eq_none (by omega)]
    have HE:=qH (And.intro hix his)
    clear hix his
    go_wp2_with fail
    go_ret2
    exact⟨by rw[HE.out.1,HE.out.2];rfl,HB.out⟩
end
end Go.Proofs.YtkpoodjhjfmfjaaGreatDoor.Ovs
namespace Go.Proofs.YtkpoodjhjfmfjaaGreatDoor.Ovs
open Go.RowKit
section
variable {w w' : World} {x : OverE} {L L' : List OverE} {b : Nat} {pr ev nx : Int} {v v' : Value} {A : Option Addr} {ps : List PropE}
theorem seek_anyD (hs:SortedP ps) (h:RSl encP w A ps) (nm:Int) (c:Nat) (hl:ps.length<=1000000) :
  Calls Tryz.prog 246 #[.slice A ps.length c,.int .i64 nm] w fun e w'=>e=.returned (.tuple #[.int .i64 (ixP ps nm),.bool (isP ps nm)])/\BelD w.heap.size w w':=by
 have HB:=qH (bsearch hs h nm c hl)
 clear hs h
 go_enter Tryz.func246,Tryz.ntmps246
 go_wp2_with fail
 refine HB.out.mono ?_
 rintro e w' ⟨rfl,hb⟩
 go_wp2_with fail
 go_ret2
 exact⟨rfl,hb⟩
def valP (ps:List PropE) (nm:Int):Option (Int × Int):=if isP ps nm then (ps[ixP ps nm]?).map (fun p=>(p.kind,p.n)) else none
theorem isP_at {nm:Int} (h:isP ps nm=true):∃ k n,ps[ixP ps nm]?=some ⟨nm,k,n⟩:=by
 unfold isP at h
 cases hx:ps[ixP ps nm]? with
 | none=>rw[hx] at h;cases h
 | some p=>rw[hx] at h;obtain⟨a,k,n⟩:=p;simp at h;subst h;exact⟨k,n,rfl⟩
def wordV (o:Option (Int × Int)):Value:=match o with|some (k,n)=>.tuple #[.agg #[.int .i64 k,.int .i64 n],.bool true]|none=>.tuple #[.agg #[.int .i64 0,.int .i64 0],.bool false]
set_option maxRecDepth 100000 in
set_option maxHeartbeats 1000000 in
theorem value_anyD (hx:OverIn w x) (hs:SortedP x.ps) (nm:Int) (hl:x.ps.length<=1000000) :
  Calls Tryz.prog 231 #[.pointer (some ⟨x.g,0,none⟩),.int .i64 nm] w fun e w'=>e=.returned (wordV (valP x.ps nm))/\BelD w.heap.size w w':=by
 have hx1:=hx.up (below1 w (.cells #[.int .i64 0,.int .i64 0] 31))
 obtain⟨A',c',hv,_,_,hr⟩:=hx1.own.shape eltP
 have hA:x.A=A'/\x.c=c':=by unfold OverE.pv at hv;cases hv;exact⟨rfl,rfl⟩
 have HSK:=qH (fun w1 (hb:BelD (w.alloc (.cells #[.int .i64 0,.int .i64 0] 31)).heap.size (w.alloc (.cells #[.int .i64 0,.int .i64 0] 31)) w1)=>seek_anyD hs (hA.1▸(hr.up hb.toBelow)) nm x.c hl)
 have c5:=hx1.cell 5 _ rfl
 have HX:=qH hx1
 have HR:=qH (show RSl encP (w.alloc (.cells #[.int .i64 0,.int .i64 0] 31)) x.A x.ps from hA.1▸hr)
 clear hx hx1 hv hr hA
 unfold valP
 cases his:isP x.ps nm with
 | false=>
   rw[if_neg (by decide)]
   simp only[his] at HSK
   clear his
   go_enter Tryz.func231,Tryz.ntmps231
   go_wp2_with fail
   refine(HSK.out _ (BelD.refl _ _)).mono ?_
   rintro e w1 ⟨rfl,hb⟩
   have k0:=hb.cell (p:=⟨w.heap.size,0,none⟩) (by simp)
   have k1:=hb.cell (p:=⟨w.heap.size,1,none⟩) (by simp)
   have kf:=fun o=>hb.frozen (p:=⟨w.heap.size,o,none⟩) (by simp)
   simp at k0 k1 kf
   have HB:=qH (up2D (below1D _ _) hb)
   clear hb
   go_wp2_with fail
   refine bodyPost_ret (v:=.tuple #[.agg #[.int .i64 0,.int .i64 0],.bool false]) (by simp[results,Tryz.f231,go_sem,k0,k1]) rfl ⟨rfl,?_⟩
   exact((HB.out.setCell (p:=⟨w.heap.size,0,none⟩) (Nat.le_refl _) _).setCell (p:=⟨w.heap.size,1,none⟩) (Nat.le_refl _) _)
 | true=>
   rw[if_pos rfl]
   obtain⟨k,n,hp⟩:=isP_at his
   rw[hp]
   simp only[his] at HSK
   have hil:=(List.getElem?_eq_some_iff.1 hp).1
   have HP:=qH hp
   generalize ixP x.ps nm=i at *
   clear his hp
   go_enter Tryz.func231,Tryz.ntmps231
   go_wp2_with fail
   refine(HSK.out _ (BelD.refl _ _)).mono ?_
   rintro e w1 ⟨rfl,hb⟩
   have k0:=hb.cell (p:=⟨w.heap.size,0,none⟩) (by simp)
   have k1:=hb.cell (p:=⟨w.heap.size,1,none⟩) (by simp)
   have kf:=fun o=>hb.frozen (p:=⟨w.heap.size,o,none⟩) (by simp)
   simp at k0 k1 kf
   have d5:=(HX.out.up hb.toBelow).cell 5 _ rfl
   obtain⟨g,o,hAe,hg,hc⟩:=(HR.out.up hb.toBelow).at_ eltP HP.out
   have e1:=hc 1 _ rfl
   have e2:=hc 2 _ rfl
   simp only[<-Nat.add_assoc,Nat.add_zero] at e1 e2
   rw[hAe] at d5
   have hil':(i:Int)<x.ps.length:=by omega
   have HB:=qH (up2D (below1D _ _) hb)
   clear hb c5 hc hAe
   go_wp2_with fail
   refine bodyPost_ret (v:=.tuple #[.agg #[.int .i64 k,.int .i64 n],.bool true]) (by simp[results,Tryz.f231,go_sem,k0,k1]) rfl ⟨rfl,?_⟩
   exact((HB.out.setCell (p:=⟨w.heap.size,0,none⟩) (Nat.le_refl _) _).setCell (p:=⟨w.heap.size,1,none⟩) (Nat.le_refl _) _)
theorem value_any (hx:OverIn w x) (hs:SortedP x.ps) (nm:Int) (hl:x.ps.length<=1000000) :
  Calls Tryz.prog 231 #[.pointer (some ⟨x.g,0,none⟩),.int .i64 nm] w fun e w'=>e=.returned (wordV (valP x.ps nm))/\Below w.heap.size w w':=
 (value_anyD hx hs nm hl).mono fun e w' ⟨he,hb⟩=>⟨he,hb.toBelow⟩
end
end Go.Proofs.YtkpoodjhjfmfjaaGreatDoor.Ovs
namespace Go.Proofs.YtkpoodjhjfmfjaaGreatDoor.Ovs
open Go.RowKit
section
variable {w w' : World} {x : OverE} {L L' : List OverE} {b : Nat} {pr ev nx : Int} {v v' : Value} {A : Option Addr} {ps : List PropE}
def getD (D:List OverD) (id nm:Int):Option (Int × Int):=match endsD D id with|some x=>valP x.ps nm|none=>none
def PsPost (w:World) (ps:List PropE) (e:Ending) (w':World):Prop:=∃ v,e=.returned v/\ROwn encP 140 3 w.heap.size w' v ps/\Below w.heap.size w w'
set_option maxRecDepth 100000 in
set_option maxHeartbeats 1000000 in
theorem cloneP (h:RSl encP w A ps) (c:Nat) (hl:ps.length<=1000000):Calls Tryz.prog 206 #[.slice A ps.length c] w (PsPost w ps):=by
 have h0:=ROwn.empty (enc:=encP) (E:=140) (k:=3) w.heap.size w (Nat.le_refl _)
 obtain⟨v',w',happ,hown',hg,_⟩:=append_run eltP h0 (by simp) (h.up (below1 _ _)) c (by simp;omega) (by omega)
 have HP:=qH happ
 clear happ
 rcases A with _|a
 ·have hL:ps=[]:=by
   rcases Nat.eq_zero_or_pos ps.length with h1|h1
   ·exact List.eq_nil_of_length_eq_zero h1
   ·obtain⟨g,o,e,_⟩:=h h1;cases e
  subst hL
  have hnil:=fun w=>Lib.run_eql_slice_nil (P:=Tryz.prog) w 63 140 none 0 c 0 0 Tryz.underlying63
  go_enter Tryz.func206,Tryz.ntmps206
  go_wp2_with fail
  go_ret
  exact⟨_,rfl,ROwn.nil _ _,Below.refl _ _⟩
 ·have hnil:=fun w=>Lib.run_eql_slice_nil (P:=Tryz.prog) w 63 140 (some a) ps.length c 0 0 Tryz.underlying63
  go_enter Tryz.func206,Tryz.ntmps206
  go_wp2_with (at_builtin;refine wpList_app_run rfl _ _ _ rfl rfl rfl HP.out ?_)
  go_ret
  exact⟨_,rfl,by simpa using hown',(below1 _ _).grown hg (by simp) (fun k hk=>h0.base hk)⟩
end
end Go.Proofs.YtkpoodjhjfmfjaaGreatDoor.Ovs
