/- A part. -/
import Derived.Test.YtkpoodjhjfmfjaaGreatDoorZ15
import Derived.Test.YtkpoodjhjfmfjaaGreatDoorZ00
import Derived.Test.YtkpoodjhjfmfjaaGreatDoorZ09
import Derived.Test.YtkpoodjhjfmfjaaGreatDoorZ07
set_option linter.unusedVariables false
set_option linter.unusedSimpArgs false
namespace Go.Proofs.YtkpoodjhjfmfjaaGreatDoor
open Go.RowKit Go.Lib
open Ovs (PropE encP eltP)
section
variable {w w' w1 : World} {N b n : Nat} {F R : Nat → Prop} {a : Adr} {s s' : St} {c : Chg}
set_option maxRecDepth 100000 in
set_option maxHeartbeats 1000000 in
theorem SetReadOnly_ok (h:GBa N w b F R a s) (on:Bool) :
  Calls Tryz.prog 29 #[pAt b,.bool on] w fun r w'=>r=.returned (.int .i64 0)/\ToA N w b F R a ({ s with ro:=on }) w':=by
 have HM:=qH (made_ok h.buf)
 have HN:=qH h.none_
 have z5:=h.buf.fz 5
 have c5:=h.buf.cell (j:=5) rfl
 have t0:=h.store ({ s with ro:=on }) (j:=5) (by omega) (.bool on) ⟨rfl,rfl,rfl,rfl,rfl,rfl,rfl,rfl,rfl,rfl⟩ rfl
 have HP:=qH t0
 clear h t0
 go_enter Tryz.func29,Tryz.ntmps29
 go_wp2_with fail
 refine HM.out.mono ?_
 rintro e w0 ⟨rfl,rfl⟩
 go_wp2_with fail
 go_ret
 exact⟨rfl,HP.out⟩
set_option maxRecDepth 100000 in
set_option maxHeartbeats 1000000 in
theorem SetForce_ok (h:GBa N w b F R a s) (on:Bool) :
  Calls Tryz.prog 28 #[pAt b,.bool on] w fun r w'=>r=.returned (.int .i64 0)/\ToA N w b F R a ({ s with fo:=on }) w':=by
 have HM:=qH (made_ok h.buf)
 have HN:=qH h.none_
 have z6:=h.buf.fz 6
 have c6:=h.buf.cell (j:=6) rfl
 have t0:=h.store ({ s with fo:=on }) (j:=6) (by omega) (.bool on) ⟨rfl,rfl,rfl,rfl,rfl,rfl,rfl,rfl,rfl,rfl⟩ rfl
 have HP:=qH t0
 clear h t0
 go_enter Tryz.func28,Tryz.ntmps28
 go_wp2_with fail
 refine HM.out.mono ?_
 rintro e w0 ⟨rfl,rfl⟩
 go_wp2_with fail
 go_ret
 exact⟨rfl,HP.out⟩
set_option maxRecDepth 100000 in
set_option maxHeartbeats 1000000 in
theorem Clean_ok (h:GBa N w b F R a s)  :
  Calls Tryz.prog 17 #[pAt b] w fun r w'=>r=.returned (.int .i64 0)/\ToA N w b F R a ({ s with clean:=s.tick }) w':=by
 have HM:=qH (made_ok h.buf)
 have HN:=qH h.none_
 have q7:=h.ctick
 have z8:=h.buf.fz 8
 have c8:=h.buf.cell (j:=8) rfl
 have t0:=h.store ({ s with clean:=s.tick }) (j:=8) (by omega) (.int .i64 (s.tick:Int)) ⟨rfl,rfl,rfl,rfl,rfl,rfl,rfl,rfl,rfl,rfl⟩ rfl
 have HP:=qH t0
 clear h t0
 go_enter Tryz.func17,Tryz.ntmps17
 go_wp2_with fail
 refine HM.out.mono ?_
 rintro e w0 ⟨rfl,rfl⟩
 go_wp2_with fail
 go_ret
 exact⟨rfl,HP.out⟩
def bndS (s:St):St:=if s.logs=true then { s with L:=s.L.close,empty:=true } else s
set_option maxRecDepth 100000 in
set_option maxHeartbeats 1000000 in
theorem Boundary_ok (h:GBa N w b F R a s)  :
  Calls Tryz.prog 16 #[pAt b] w fun r w'=>r=.returned (.int .i64 0)/\ToA N w b F R a (bndS s) w':=by
 have c14:w.cell? ⟨b,14,none⟩=some (.bool s.logs):=h.buf.cell (j:=14) rfl
 have c13:=h.cl
 have H:=qH h
 obtain⟨S2,hS2⟩:∃ z,z=bndS s:=⟨_,rfl⟩
 rw[<-hS2]
 have HS2:=qH hS2
 clear h hS2
 cases hl:s.logs with
 | true=>
   rw[hl] at c14
   have HL:=qH hl
   clear hl
   go_enter Tryz.func16,Tryz.ntmps16
   go_wp2_with fail
   refine H.out.none_.mono ?_
   rintro e w0 ⟨rfl,rfl⟩
   go_wp2_with fail
   refine H.out.lbound.mono ?_
   rintro e w1 ⟨rfl,ht⟩
   have z15:=ht.gb.buf.fz 15
   have q15:=ht.gb.buf.cell (j:=15) rfl
   have HP:=qH (ht.trans (ht.gb.store { s with L:=s.L.close,empty:=true } (j:=15) (by omega) (.bool true) ⟨rfl,rfl,rfl,rfl,rfl,rfl,rfl,rfl,rfl,rfl⟩ rfl))
   clear ht c13 c14
   go_wp2_with fail
   go_ret
   exact⟨rfl,by rw[HS2.out,bndS,if_pos HL.out];exact HP.out⟩
 | false=>
   rw[hl] at c14
   have HL:=qH hl
   clear hl
   go_enter Tryz.func16,Tryz.ntmps16
   go_wp2_with fail
   refine H.out.none_.mono ?_
   rintro e w0 ⟨rfl,rfl⟩
   go_wp2_with fail
   go_ret
   exact⟨rfl,by rw[HS2.out,bndS,if_neg (by rw[HL.out];simp)];exact ToA.refl H.out⟩
def sundS (s:St) (on:Bool):St:=if on=true then { s with logs:=true } else { s with logs:=false,L:=⟨[],[],-1⟩,empty:=true }
set_option maxRecDepth 100000 in
set_option maxHeartbeats 1000000 in
theorem SetUndo_ok (h:GBa N w b F R a s) (on:Bool) :
  Calls Tryz.prog 30 #[pAt b,.bool on] w fun r w'=>r=.returned (.int .i64 0)/\ToA N w b F R a (sundS s on) w':=by
 have c14:=h.buf.cell (j:=14) rfl
 have z14:=h.buf.fz 14
 have H:=qH h
 have h1:=h.store { s with logs:=on } (j:=14) (by omega) (.bool on) ⟨rfl,rfl,rfl,rfl,rfl,rfl,rfl,rfl,rfl,rfl⟩ rfl
 have H1:=qH h1
 have c13:=h1.gb.cl
 unfold sundS
 clear h h1
 cases on with
 | true=>
   go_enter Tryz.func30,Tryz.ntmps30
   go_wp2_with fail
   refine H.out.none_.mono ?_
   rintro e w0 ⟨rfl,rfl⟩
   go_wp2_with fail
   go_ret
   exact⟨rfl,H1.out⟩
 | false=>
   go_enter Tryz.func30,Tryz.ntmps30
   go_wp2_with fail
   refine H.out.none_.mono ?_
   rintro e w0 ⟨rfl,rfl⟩
   go_wp2_with fail
   refine H1.out.gb.lclear.mono ?_
   rintro e w1 ⟨rfl,ht⟩
   have h2:=H1.out.trans ht
   have z15:=h2.gb.buf.fz 15
   have q15:=h2.gb.buf.cell (j:=15) rfl
   have HP:=qH (h2.trans (h2.gb.store { s with logs:=false,L:=⟨[],[],-1⟩,empty:=true } (j:=15) (by omega) (.bool true) ⟨rfl,rfl,rfl,rfl,rfl,rfl,rfl,rfl,rfl,rfl⟩ rfl))
   clear ht h2 c13 c14
   go_wp2_with fail
   go_ret
   exact⟨rfl,HP.out⟩
end
end Go.Proofs.YtkpoodjhjfmfjaaGreatDoor
namespace Go.Proofs.YtkpoodjhjfmfjaaGreatDoor
open Go.RowKit Go.Lib
open Ovs (PropE encP eltP)
section
variable {w w' w1 : World} {N b n : Nat} {F R : Nat → Prop} {a : Adr} {s s' : St} {c : Chg}
set_option maxRecDepth 100000 in
set_option maxHeartbeats 4000000 in
theorem insert_ok (h:GBa N w b F R a s) (hB:Pos s 900000000) (tx:ByteArray) (bf:Bool) (hs:tx.size<=262144) :
  Calls Tryz.prog 80 #[pAt b,.string tx,.bool bf] w fun r w'=>r=.returned (.int .i64 (isE s tx))/\To N w b F R (if isE s tx=0 then isS s tx bf else s) w':=by
 have HX:=qH (hs)
 have HB:=qH hB
 have H:=qH h
 obtain⟨E1,hE1⟩:∃ z:Int,z=errB 3 (reachS s (s.pt:Int) (s.pt:Int)):=⟨_,rfl⟩
 obtain⟨E2,hE2⟩:∃ z:Int,z=errB 14 (gapS s (s.pt:Int)):=⟨_,rfl⟩
 obtain⟨E3,hE3⟩:∃ z:Int,z=fitsE tx s.cs.length 0:=⟨_,rfl⟩
 obtain⟨E,hE⟩:∃ z:Int,z=isE s tx:=⟨_,rfl⟩
 rw[<-hE]
 have hPE:E=(if E1=0 then (if E2=0 then E3 else E2) else E1):=by rw[hE];unfold isE;rw[hE1,hE2,hE3];simp[andE]
 obtain⟨T2,hT2⟩:∃ z:St,z=(if E=0 then isS s tx bf else s):=⟨_,rfl⟩
 rw[<-hT2]
 have HE1:=qH hE1
 have HE2:=qH hE2
 have HE3:=qH hE3
 have HPE:=qH hPE
 have HT2:=qH hT2
 clear h hB hT2 hPE hE hE1 hE2 hE3 hs
 have c0:w.cell? ⟨b,0,none⟩=some (.int .i64 (s.pt:Int)):=H.out.buf.cell (j:=0) rfl
 go_enter Tryz.func80,Tryz.ntmps80
 go_wp2_with fail
 refine H.out.none_.mono ?_
 rintro e w0 ⟨rfl,rfl⟩
 go_wp2_with fail
 refine(H.out.within_ (s.pt:Int) (s.pt:Int)).mono ?_
 rintro e w1 ⟨c1,rfl,he1,hb1,hc1⟩
 rw[<-HE1.out] at he1
 have C1:=qH (⟨he1,hc1⟩:c1.e=E1/\ChkAt w1 _ c1)
 have B1:=qH (hb1)
 clear he1 hc1 hb1
 go_wp2_with fail
 refine((H.out.up B1.out).gapOpen_ (s.pt:Int)).mono ?_
 rintro e w2 ⟨c2,rfl,he2,hb2,hc2⟩
 rw[<-HE2.out] at he2
 have C1:=qH (⟨C1.out.1,C1.out.2.up hb2⟩:c1.e=E1/\ChkAt w2 _ c1)
 have C2:=qH (⟨he2,hc2⟩:c2.e=E2/\ChkAt w2 _ c2)
 have B2:=qH (up2 B1.out hb2)
 clear he2 hc2 hb2 B1
 go_wp2_with fail
 refine((H.out.up B2.out).fits_ tx HX.out 0).mono ?_
 rintro e w3 ⟨c3,rfl,he3,hb3,hc3⟩
 rw[<-HE3.out] at he3
 have C1:=qH (⟨C1.out.1,C1.out.2.up hb3⟩:c1.e=E1/\ChkAt w3 _ c1)
 have C2:=qH (⟨C2.out.1,C2.out.2.up hb3⟩:c2.e=E2/\ChkAt w3 _ c2)
 have C3:=qH (⟨he3,hc3⟩:c3.e=E3/\ChkAt w3 _ c3)
 have B3:=qH (up2 B2.out hb3)
 clear he3 hc3 hb3 B2
 go_wp2_with fail
 have hb4:=below1 w3 (.cells #[c1.val,c2.val,c3.val] 33)
 have hR3:=RSl.arr (enc:=encK) (zs:=[c1,c2,c3]) (MapKept.heap_alloc w3 (.cells #[c1.val,c2.val,c3.val] 33)).1 rfl
 have HF:=first_any hR3 3 (by simp) (by
  intro c hc
  simp only[List.mem_cons,List.not_mem_nil,or_false] at hc
  rcases hc with rfl|rfl|rfl
  ·exact C1.out.2.en
  ·exact C2.out.2.en
  ·exact C3.out.2.en) (by
  intro i c w4 hi hz hb
  rcases i with _|_|_|i
  ·cases hi;exact C1.out.2.run trivial w4 (up2 hb4 hb)
  ·cases hi;have z1:E1=0:=C1.out.1.symm.trans (hz 0 c1 rfl (by omega));exact C2.out.2.run (by have:=reach0 (HE1.out.symm.trans z1);have:=HB.out.lo1;have:=HB.out.hi;exact⟨by omega,by omega⟩) w4 (up2 hb4 hb)
  ·cases hi;have z1:E1=0:=C1.out.1.symm.trans (hz 0 c1 rfl (by omega));have z2:E2=0:=C2.out.1.symm.trans (hz 1 c2 rfl (by omega));exact C3.out.2.run ⟨by omega,by omega⟩ w4 (up2 hb4 hb)
  ·simp at hi)
 have hfe:firstE [c1,c2,c3]=E:=by rw[firstE3,C1.out.1,C2.out.1,C3.out.1];exact HPE.out.symm
 rw[hfe] at HF
 have HF:=qH HF
 have B4:=qH (up2 B3.out hb4)
 clear hR3 hb4 hfe C1 C2 C3 B3
 refine HF.out.mono ?_
 rintro e w5 ⟨rfl,hb5⟩
 have B5:=qH (up2 B4.out hb5)
 clear hb5 B4 HF
 by_cases hE:E=0
 ·have HE0:=qH hE
  have hz:=HPE.out
  rw[hE] at hz
  have hz1:E1=0:=by
   by_cases q:E1=0
   ·exact q
   ·rw[if_neg q] at hz;exact hz.symm
  rw[if_pos hz1] at hz
  have hz2:E2=0:=by
   by_cases q:E2=0
   ·exact q
   ·rw[if_neg q] at hz;exact hz.symm
  rw[if_pos hz2] at hz
  have hz3:E3=0:=hz.symm
  clear hz
  have f1:=reach0 (HE1.out.symm.trans hz1)
  have f3:=fits0 (HE3.out.symm.trans hz3)
  have l1:=HB.out.lo1
  have l2:=HB.out.hi
  have HA:=qH (put_ok (H.out.up B5.out) (HB.out.mono (by omega)) s.pt (by omega) (by omega) tx HX.out f3.1 bf)
  have hcl:=chrs_len tx
  have hsz:=HX.out
  have s7:IntKind.i64.wrap ((s.pt:Int)+((chrs tx).length:Int))=((s.pt+(chrs tx).length:Nat):Int):=by rw[IntWalk.i64_in _ (by omega)];omega
  have HF3:=qH f3
  clear f1 f3 l1 l2 hz1 hz2 hz3 c0 hcl hsz
  rw[hE]
  go_wp2_with fail
  refine HA.out.mono ?_
  rintro e w6 ⟨rfl,ht⟩
  have H6:=qH (ToA.before H.out B5.out ht)
  have hLn:=runesLen tx w6 (by have:=HX.out;omega) H6.out.gb.tabs
  rw[rlenG_chars HF3.out.1] at hLn
  have HLn:=qH hLn
  clear ht hLn
  go_wp2_with fail
  refine HLn.out.mono ?_
  rintro e w7 ⟨rfl,hb7⟩
  have h7:=H6.out.below hb7
  have z0:=h7.gb.buf.fz 0
  have q0:=h7.gb.buf.cell (j:=0) rfl
  have HP:=qH (show To N w b F R (isS s tx bf) _ from(h7.trans (h7.gb.store (isS s tx bf) (j:=0) (by omega) (.int .i64 ((s.pt+(chrs tx).length:Nat):Int)) ⟨rfl,rfl,rfl,rfl,rfl,rfl,rfl,rfl,rfl,rfl⟩ rfl)).to)
  clear h7 hb7
  go_wp2_with fail
  go_ret
  refine⟨by rw[HE0.out];rfl,?_⟩
  rw[HT2.out,if_pos HE0.out]
  exact HP.out
 ·have e1:((E:Int) == 0)=false:=by simpa using hE
  have e2:(E=0)=False:=eq_false hE
  have HEN:=qH hE
  clear hE
  go_wp2_with fail
  go_ret
  refine⟨rfl,?_⟩
  rw[HT2.out,if_neg HEN.out]
  exact(ToA.of_below H.out B5.out).to
set_option maxHeartbeats 1000000 in
theorem Insert_ok (h:GBa N w b F R a s) (hB:Pos s 900000000) (tx:ByteArray) (hs:tx.size<=262144) :
  Calls Tryz.prog 20 #[pAt b,.string tx] w fun r w'=>r=.returned (.int .i64 (isE s tx))/\To N w b F R (if isE s tx=0 then isS s tx false else s) w':=by
 have HI:=qH (insert_ok h hB tx false hs)
 generalize (if isE s tx=0 then isS s tx false else s)=S2 at *
 generalize isE s tx=E at *
 clear h hB hs
 go_enter Tryz.func20,Tryz.ntmps20
 go_wp2_with fail
 refine HI.out.mono ?_
 rintro r w' ⟨rfl,h1⟩
 have H1:=qH h1
 clear h1
 go_wp2_with fail
 go_ret
 exact⟨rfl,H1.out⟩
def prR (s:St) (x y nm:Int) (want:Option (Int × Int)):Int:=if prE s x y=0 then setE s.P x y nm want else prE s x y
def prS (s:St) (x y nm:Int) (want:Option (Int × Int)):St:=if prE s x y=0 then setS s x y nm want else s
set_option maxHeartbeats 1000000 in
theorem PutProp_ok (h:GBa N w b F R a s) (hB:Pos s 900000000) (x y nm vk vn:Int) :
  Calls Tryz.prog 14 #[pAt b,.int .i64 x,.int .i64 y,.int .i64 nm,.agg #[.int .i64 vk,.int .i64 vn]] w fun r w'=>r=.returned (.int .i64 (prR s x y nm (some (vk,vn))))/\To N w b F R (prS s x y nm (some (vk,vn))) w':=by
 obtain⟨E,hE⟩:∃ z,z=prR s x y nm (some (vk,vn)):=⟨_,rfl⟩
 obtain⟨S2,hS⟩:∃ z,z=prS s x y nm (some (vk,vn)):=⟨_,rfl⟩
 have HI:=qH (fun W hb=>prop_ok (w:=W) (h.up hb) hB x y nm vk vn true)
 have HI:=qH (show ∀ W,Below w.heap.size w W->Calls Tryz.prog 73 #[pAt b,.int .i64 x,.int .i64 y,.int .i64 nm,.agg #[.int .i64 vk,.int .i64 vn],.bool true] W fun r w'=>r=.returned (.int .i64 E)/\To N W b F R S2 w' from hE▸hS▸HI.out)
 have H:=qH h
 rw[<-hE,<-hS]
 clear h hB hE hS
 go_enter Tryz.func14,Tryz.ntmps14
 go_wp2_with fail
 refine(HI.out _ (below1 w _)).mono ?_
 rintro r w' ⟨rfl,h1⟩
 have H1:=qH (h1.before H.out (below1 w _))
 clear h1
 go_wp2_with fail
 go_ret
 exact⟨rfl,H1.out⟩
def widS (s:St):St:={ s with lo:=1,hi:=s.cs.length+1 }
set_option maxRecDepth 100000 in
set_option maxHeartbeats 1000000 in
theorem Widen_ok (h:GBa N w b F R a s):Calls Tryz.prog 43 #[pAt b] w fun r w'=>r=.returned (.int .i64 0)/\ToA N w b F R a (widS s) w':=by
 have q9:=h.ct
 have hlen:=h.len
 have s1:IntKind.i64.wrap ((s.cs.length:Int)+1)=((s.cs.length+1:Nat):Int):=by rw[IntWalk.i64_in _ (by omega)];omega
 have HS:=qH h.tsize
 have H:=qH h
 clear h hlen
 go_enter Tryz.func43,Tryz.ntmps43
 go_wp2_with fail
 refine H.out.none_.mono ?_
 rintro e w0 ⟨rfl,rfl⟩
 go_wp2_with fail
 refine HS.out.mono ?_
 rintro e w1 ⟨rfl,hb⟩
 have h1:=ToA.of_below H.out hb
 have z1:=h1.gb.buf.fz 1
 have z2:=h1.gb.buf.fz 2
 have q1:=h1.gb.buf.cell (j:=1) rfl
 have q2:=h1.gb.buf.cell (j:=2) rfl
 have h2:=h1.trans (h1.gb.store { s with lo:=1 } (j:=1) (by omega) (.int .i64 1) ⟨rfl,rfl,rfl,rfl,rfl,rfl,rfl,rfl,rfl,rfl⟩ rfl)
 have HP:=qH (h2.trans (h2.gb.store (widS s) (j:=2) (by omega) (.int .i64 ((s.cs.length+1:Nat):Int)) ⟨rfl,rfl,rfl,rfl,rfl,rfl,rfl,rfl,rfl,rfl⟩ rfl))
 clear h1 h2 hb q9
 go_wp2_with fail
 go_ret
 exact⟨rfl,HP.out⟩
end
end Go.Proofs.YtkpoodjhjfmfjaaGreatDoor
namespace Go.Proofs.YtkpoodjhjfmfjaaGreatDoor
open Go.RowKit
def pureOpF (o:Oper):Bool:=match o.op with
 | .move _|.assign _|.pick _ _ _|.build _ _|.load _ _|.nilCheck _|.binOp _ _ _ _ _|.unOp _ _ _|.convert _ _ _|.slice _ _ _ _ _|.fieldAddr _ _ _|.field _ _ _|.indexAddr _ _ _|.index _ _ _|.lookup _ _ _ _|.extract _ _|.makeFunc (.func _) _ _=>true
 | .call c=>match c.callee with
   | .builtin .len=>true
   | .builtin .cap=>true
   | _=>false
 | _=>false
theorem pure_valF {P:Program} {w w':World} {ρ:Operand->Value} {o:Oper} {nx:Next} (hp:pureOpF o=true) (h:(execOp ρ o).run P w=.ok nx w'):∃ u,nx=.value u:=by
 suffices H:ValOnly (execOp ρ o) from H _ _ _ _ h
 clear h
 unfold pureOpF at hp
 unfold execOp
 cases ho:o.op<;>simp only[]<;>first
  | exact ValOnly.bind _ _ fun _=>ValOnly.pure _
  | exact ValOnly.pure _
  |(exfalso;rw[ho] at hp;simp at hp;done)
  | skip
 case nilCheck x=>
  split<;>first
   | exact val_panic
   | exact ValOnly.pure _
   | skip
  split<;>first
   | exact val_panic
   | exact ValOnly.pure _
   | skip
  refine ValOnly.bind _ _ fun _=>ValOnly.bind _ _ fun _=>?_
  split
  ·exact ValOnly.bind _ _ fun _=>ValOnly.pure _
  ·exact ValOnly.pure _
 case call c=>
  rw[ho] at hp
  simp only at hp
  cases hc:c.callee<;>rw[hc] at hp<;>(try (simp at hp;done))
  rename_i b
  intro P w nx w' h
  cases b<;>(try (simp at hp;done))<;>simp only[resolve,hc,Sem.run_bind,Sem.run_pure,Result.andThen_ok,invoke,builtin] at h<;>exact ValOnly.bind _ _ (fun _=>ValOnly.pure _) P w nx w' (by simpa only [Sem.run_bind,Sem.run_pure] using h)
section
variable {P : Program} {ops : Array Oper} {md : Region.Mode} {S : World → Prop} {Q : Exit → Act → World → Prop}
theorem yieldsIf_of_inF {o:Oper} {v:Value} {a:Act} (hp:pureOpF o=true) (h:YieldsIn P ops S o v a):YieldsIf P ops S o v a:=by
 rcases h with ⟨hw,h⟩|h
 ·refine .inl ⟨hw,fun w hS=>?_⟩
  have h1:=h w hS
  unfold Oper.quietAt at h1
  cases hr:(execOp a.eval o).run P w with
  | halt x w'=>rw[hr] at h1;simp[Oper.quietUpon] at h1
  | ok nx w'=>
    rw[hr] at h1
    obtain⟨u,rfl⟩:=pure_valF hp hr
    simp only[Oper.quietUpon] at h1
    obtain⟨rfl,rfl⟩:=h1
    rfl
 ·exact .inr h
def segBF (md:Region.Mode) (l:List Oper) (n:Nat):List Nat->Array Bool->Option (Array Bool)
 | [],listed=>some listed
 | i :: r,listed=>if ((l[i]?).map pureOpF).getD false && decide (i<n) && (Region.ready md l.toArray listed).contains i && Region.free md l.toArray listed i then segBF md l n r (listed.setIfInBounds i true) else none
def mixBF (md:Region.Mode) (l:List Oper) (n:Nat) (last:List Nat):List (List Nat × Nat)->Array Bool->Bool
 | [],listed=>match segBF md l n last listed with
   | none=>false
   | some l'=>Region.seqB md l.toArray (l.length - n) n l'
 | (seg,i) :: r,listed=>match segBF md l n seg listed with
   | none=>false
   | some l'=>decide (Region.ready md l.toArray l'=[i]) && decide (i<n) && mixBF md l n last r (l'.setIfInBounds i true)
def mixAllF (l:List Oper) (n:Nat) (plan:List (List Nat × Nat)) (last:List Nat):Bool:=
 Region.noSelect l.toArray && (decide (n=l.length) ||(decide (n<l.length) && Region.sinkB .any l.toArray n && Region.chainB .any l.toArray n)) && decide (cntM plan+last.length=n) && mixBF .any l n last plan (Array.replicate l.length false)
theorem seg_headMF {l:List Oper} {n:Nat} {L:Array Bool->Act->World->Prop} (hsel:Region.noSelect l.toArray=true) (hQ:∀ c d v a w,Q (.panic c) (Act.put a d v) w->Q (.panic c) a w)
  (htw:∀ listed,HeadInv md l.toArray n listed->∀ i,i<n->listed.getD i true=false->∀ t,n<=t->t ∉ Region.ready md l.toArray listed) (hdone:∀ listed a w,L listed a w->∀ j ∈ Region.ready md l.toArray listed,n<=j) :
  ∀ (seg:List Nat) (listed l':Array Bool) (f:Nat) (K:Act->Prop) (a:Act) (w:World),HeadInv md l.toArray n listed->segBF md l n seg listed=some l'->S w->wpQuiet P l.toArray S K (pk l seg) a ->
    (HeadInv md l.toArray n l'->∀ a',K a'->headM P md l.toArray S Q n L f l' a' w)->headM P md l.toArray S Q n L (seg.length+f) listed a w
 | [],listed,l',f,K,a,w,inv,hB,hS,h,hK=>by
   simp only[segBF,Option.some.injEq] at hB
   subst hB
   rw[List.length_nil,Nat.zero_add]
   exact hK inv a h
 | i :: seg,listed,l',f,K,a,w,inv,hB,hS,h,hK=>by
   unfold segBF at hB
   split at hB
   ·rename_i hc
    simp only[Bool.and_eq_true,decide_eq_true_eq] at hc
    obtain⟨⟨⟨hp,hin⟩,hr⟩,hf⟩:=hc
    cases ho:l[i]? with
    | none=>rw[ho] at hp;simp at hp
    | some o=>
      rw[ho] at hp
      have hp':pureOpF o=true:=by simpa using hp
      have ho':l.toArray[i]?=some o:=by simpa using ho
      have hr':i ∈ Region.ready md l.toArray listed:=by simpa using hr
      have hst:qOp P l.toArray S i (wpQuiet P l.toArray S K (pk l seg)) a:=by
       unfold qOp
       simp only[ho']
       have e:pk l (i :: seg)=o :: pk l seg:=by rw[pk_cons,pushAt_eq _ _ _ ho]
       rw[e] at h
       exact h
      obtain⟨v,hy,hk⟩:=yieldsIn_of_qOp ho' hst
      rw[List.length_cons,show seg.length+1+f=(seg.length+f)+1 by omega]
      exact headM_first ho' (Region.noSelect_spec hsel) (fun c a w h=>hQ c _ _ a w h) htw hin hdone _ listed a w inv (Region.free_spec ho' hf) hr' (yieldsIf_of_inF hp' hy) hS
       (seg_headMF hsel hQ htw hdone seg _ l' f K _ w (inv.set hr' hin) hB hS hk hK)
   ·cases hB
theorem mix_headMF {l:List Oper} {n:Nat} {last:List Nat} (hsel:Region.noSelect l.toArray=true) (hQ:∀ c d v a w,Q (.panic c) (Act.put a d v) w->Q (.panic c) a w)
  (htw:∀ listed,HeadInv md l.toArray n listed->∀ i,i<n->listed.getD i true=false->∀ t,n<=t->t ∉ Region.ready md l.toArray listed) :
  ∀ (plan:List (List Nat × Nat)) (listed:Array Bool) (a:Act) (w:World),HeadInv md l.toArray n listed->mixBF md l n last plan listed=true->S w ->
    wpMix P l S Q (fun a w=>wpQuiet P l.toArray S (fun a'=>wpList P l.toArray Q (l.drop n) a' w) (pk l last) a) plan a w ->
    headM P md l.toArray S Q n (fun listed a w=>Region.seqB md l.toArray (l.length - n) n listed=true/\wpList P l.toArray Q (l.drop n) a w) (cntM plan+last.length) listed a w
 | [],listed,a,w,inv,hB,hS,h=>by
   unfold mixBF at hB
   split at hB
   ·cases hB
   ·rename_i l' hl'
    have:=seg_headMF (P:=P) (S:=S) (Q:=Q) (L:=fun listed a w=>Region.seqB md l.toArray (l.length - n) n listed=true/\wpList P l.toArray Q (l.drop n) a w) hsel hQ htw (fun listed a w h=>seqB_ready h.1) last listed l' 0 _ a w inv hl' hS h (fun _ a' h'=>⟨hB,h'⟩)
    simpa [cntM] using this
 | (seg,i) :: r,listed,a,w,inv,hB,hS,h=>by
   unfold mixBF at hB
   split at hB
   ·cases hB
   ·rename_i l' hl'
    simp only[Bool.and_eq_true,decide_eq_true_eq] at hB
    obtain⟨⟨hr,hin⟩,hB⟩:=hB
    have:=seg_headMF (P:=P) (S:=S) (Q:=Q) (L:=fun listed a w=>Region.seqB md l.toArray (l.length - n) n listed=true/\wpList P l.toArray Q (l.drop n) a w) hsel hQ htw (fun listed a w h=>seqB_ready h.1) seg listed l' (1+(cntM r+last.length)) _ a w inv hl' hS h (fun inv' a' h'=>by
     rw[Nat.add_comm 1]
     refine⟨by rw[hr];simp,fun j hj=>?_⟩
     have hj0:=hj
     rw[hr] at hj
     have hji:j=i:=by simpa using hj
     subst hji
     refine⟨hin,?_⟩
     obtain⟨_,oj,hoj,_⟩:=mem_ready.1 hj0
     have e:pk l [j]=[oj]:=by
      have:l[j]?=some oj:=by simpa using hoj
      rw[pk_cons,pushAt_eq _ _ _ this];rfl
     rw[e] at h'
     exact wpOp_mono (fun a'' w'' h3=>⟨h3.1,mix_headMF hsel hQ htw r _ a'' w'' (inv'.set hj0 hin) hB h3.1 h3.2⟩) (wpOp_of_list hoj h'))
    simp only[cntM]
    rwa [show seg.length+1+cntM r+last.length=seg.length+(1+(cntM r+last.length)) by omega]
end
theorem wp_region_mixF {P:Program} {id:Nat} {Q:Exit->Act->World->Prop} {a:Act} {w:World} {l:List Oper} (N n:Nat) (plan:List (List Nat × Nat)) (last:List Nat) (hm:P.follows .mixedOrders=true) (hQ:∀ c d v a w,Q (.panic c) (Act.put a d v) w->Q (.panic c) a w)
  (hB:mixAllF l n plan last=true)
  (h:wpMix P l (fun w'=>∃ x:UpW N w,w'=x.w) Q (fun a w1=>wpQuiet P l.toArray (fun w'=>∃ x:UpW N w,w'=x.w) (fun a'=>wpList P l.toArray Q (l.drop n) a' w1) (pk l last) a) plan a w.drew):(Code.region id l.toArray true).wp P Q a w:=by
 simp only[mixAllF,Bool.and_eq_true,Bool.or_eq_true,decide_eq_true_eq] at hB
 obtain⟨⟨⟨hsel,hn⟩,hcnt⟩,hmix⟩:=hB
 have hnl:n<=l.length:=by rcases hn with h|h<;>omega
 have inv0:HeadInv .any l.toArray n (Array.replicate l.length false):=
  ⟨by simp,fun j oj _ hl=>(by rw[getD_replicate_false] at hl;cases hl),fun t _ ht=>getD_in (by simpa using ht) (getD_replicate_false _ _)⟩
 have htw:∀ listed,HeadInv .any l.toArray n listed->∀ i,i<n->listed.getD i true=false->∀ t,n<=t->t ∉ Region.ready .any l.toArray listed:=fun listed inv i hi hun t ht hr=>by
  rcases hn with hn|⟨⟨hn,hs⟩,hc⟩
  ·obtain⟨_,ot,hot,_⟩:=mem_ready.1 hr
   have:=(Array.getElem?_eq_some_iff.1 hot).1
   simp at this
   omega
  ·exact tail_waits hs hc (by simpa using hn) inv _ i rfl hi hun t ht hr
 have H:=mix_headMF (md:=.any) hsel hQ htw plan _ a w.drew inv0 hmix ⟨⟨w.drew,(Below.refl N w).drew⟩,rfl⟩ h
 refine wp_region_any hm ?_
 have key:=any_of_headM (Q:=Q) (g:=l.length - n) (fun listed a' w' hL=>by
  have:=wpAny_of_seq (md:=.any) (Q':=Q) (l.drop n) n listed a' w' (fun j=>by simp[List.getElem?_drop]) (by rw[List.length_drop];exact hL.1) hL.2
  rwa [List.length_drop] at this) _ _ _ _ H
 rw[hcnt,show n+(l.length - n)=l.toArray.size by simp;omega] at key
 simpa using key
end Go.Proofs.YtkpoodjhjfmfjaaGreatDoor
namespace Go.Proofs.YtkpoodjhjfmfjaaGreatDoor
open Go.RowKit Go.Lib
open Ovs (PropE encP eltP)
section
variable {w w' w1 : World} {N b n : Nat} {F R : Nat → Prop} {a : Adr} {s s' : St} {c : Chg}
end
end Go.Proofs.YtkpoodjhjfmfjaaGreatDoor
namespace Go.Proofs.YtkpoodjhjfmfjaaGreatDoor
open Go.RowKit Go.Lib
open Ovs (PropE encP eltP)
def excOf (s:St):Exc:=⟨s.pt,s.lo,s.hi,s.mark,s.marked,s.tokens,decide (s.lo=1) && decide (s.hi=s.cs.length+1)⟩
def savS (s:St):St:={ s with X:=s.X++[excOf s],tokens:=s.tokens+1 }
section
variable {w w' w1 : World} {N b n : Nat} {F R : Nat → Prop} {a : Adr} {s s' : St} {c : Chg}
theorem GBa.setExc {w3:World} {col:Nat->Nat} {v':Value} {X':List Exc} {tk:Nat} (o:Out N w F R col) (k:Core w b col a s) (ho:Only (fun g=>col g=7) w w3) (hown:ROwn encX 128 7 0 w3 v' X') (hl:X'.length<=1000000)
  (hnew:∀ g,v'.ownBlock=some g->col g=7/\g<w.heap.size\/w.heap.size<=g) :
  ToA N w b F R { a with sv:=v' } { s with X:=X',tokens:=tk } ((w3.setCell ⟨b,17,none⟩ v').setCell ⟨b,18,none⟩ (.int .i64 (tk:Int))):=by
 have he:=colG_eq (col:=col) w.heap.size 7
 have ho':Only (fun g=>(fun i=>i=1\/i=7) (col g)) w ((w3.setCell ⟨b,17,none⟩ v').setCell ⟨b,18,none⟩ (.int .i64 (tk:Int))):=
  ((ho.mono (fun g hg=>.inr hg)).setCell (p:=⟨b,17,none⟩) (.inl k.cb) _).setCell (p:=⟨b,18,none⟩) (.inl k.cb) _
 have hbl:=k.buf.lt
 have hb7:¬ col b=7:=by rw[k.cb];omega
 have hbv:∀ g,v'.ownBlock=some g->g≠b:=fun g hg e=>by
  rcases hnew g hg with h|h
  ·rw[e] at h;exact hb7 h.1
  ·omega
 have hk3:=k.buf.only ho hb7
 have hk5:=(hk3.set (j:=17) (by simp) v').set (j:=18) (by simp) (.int .i64 (tk:Int))
 have h35:Only (fun g=>g=b) w3 ((w3.setCell ⟨b,17,none⟩ v').setCell ⟨b,18,none⟩ (.int .i64 (tk:Int))):=((Only.refl (fun g=>g=b) w3).setCell (p:=⟨b,17,none⟩) rfl _).setCell (p:=⟨b,18,none⟩) rfl _
 have hcol:∀ g,v'.ownBlock=some g->colG col w.heap.size 7 g=7:=fun g hg=>by
  rcases hnew g hg with h|h
  ·exact(he g h.2).trans h.1
  ·exact if_neg (by omega)
 exact o.to (fun i=>i=1\/i=7) (fun i hi=>by omega) he ho' ⟨hk5,k.cb_ he,k.gap_ (C:=fun i=>i=1\/i=7) ho' (by simp) he,k.mks_ (C:=fun i=>i=1\/i=7) ho' (by simp) he,k.prs_ (C:=fun i=>i=1\/i=7) ho' (by simp) (by simp) he,
  k.ovs_ (C:=fun i=>i=1\/i=7) ho' (by simp) he,k.log_ (C:=fun i=>i=1\/i=7) ho' (by simp) he,⟨hown.kept fun g hg=>h35.block g (hown.lt hg) (hbv g hg),hcol,hl⟩⟩
set_option maxRecDepth 100000 in
set_option maxHeartbeats 4000000 in
theorem Save_ok (h:GBa N w b F R a s) (hX:s.X.length<200) (htk:s.tokens<=1000000000) :
  Calls Tryz.prog 49 #[pAt b] w fun r w'=>r=.returned (.tuple #[.int .i64 s.tokens,.int .i64 0])/\To N w b F R (savS s) w':=by
 have hlen:=h.len
 obtain⟨tk,htk2⟩:∃ tk:Nat,tk=s.tokens+1:=⟨_,rfl⟩
 have s1:IntKind.i64.wrap ((s.cs.length:Int)+1)=((s.cs.length+1:Nat):Int):=by rw[IntWalk.i64_in _ (by omega)];omega
 have s2:IntKind.i64.wrap ((s.tokens:Int)+1)=(tk:Int):=by rw[IntWalk.i64_in _ (by omega)];omega
 have s3:IntKind.i64.wrap ((tk:Int) - 1)=(s.tokens:Int):=by rw[IntWalk.i64_in _ (by omega)];omega
 have HTK:=qH (⟨htk2,hX,htk,hlen⟩:_/\_/\_/\_)
 have H:=qH h
 have H0:=qH h
 obtain⟨col,o,k⟩:=h
 obtain⟨A,cap,hsl,_,_,_⟩:=k.exc.1.shape eltX
 have c17:w.cell? ⟨b,17,none⟩=some (.slice A s.X.length cap):=by rw[<-hsl];exact k.buf.cell (j:=17) rfl
 have HK:=qH (⟨o,k,hsl⟩:_/\_/\_)
 have d1:((200:Int)<=(s.X.length:Int))=False:=eq_false (by omega)
 have d2:decide ((200:Int)<=(s.X.length:Int))=false:=decide_eq_false (by omega)
 clear hlen htk2 hX htk o k hsl
 go_enter Tryz.func49,Tryz.ntmps49
 go_wp2_with fail
 refine H.out.none_.mono ?_
 rintro e w1 ⟨rfl,rfl⟩
 go_wp2_with fail
 obtain⟨T,hT⟩:∃ T:Nat->Prop,T=fun g=>Value.ownBlock (.slice A s.X.length cap)=some g:=⟨_,rfl⟩
 have hbT:¬ T b:=fun e=>by
  rw[hT] at e
  have h7:col b=7:=HK.out.2.1.exc.2.1 b (HK.out.2.2▸e)
  rw[HK.out.2.1.cb] at h7;omega
 have hkb:=fun(X:OnW T w)=>HK.out.2.1.buf.only X.on hbT
 have X0:∀ X:OnW T w,X.w.cell? ⟨b,0,none⟩=some (.int .i64 (s.pt:Int)):=fun X=>(hkb X).cell (j:=0) rfl
 have X1:∀ X:OnW T w,X.w.cell? ⟨b,1,none⟩=some (.int .i64 (s.lo:Int)):=fun X=>(hkb X).cell (j:=1) rfl
 have X2:∀ X:OnW T w,X.w.cell? ⟨b,2,none⟩=some (.int .i64 (s.hi:Int)):=fun X=>(hkb X).cell (j:=2) rfl
 have X3:∀ X:OnW T w,X.w.cell? ⟨b,3,none⟩=some (.int .i64 (s.mark:Int)):=fun X=>(hkb X).cell (j:=3) rfl
 have X4:∀ X:OnW T w,X.w.cell? ⟨b,4,none⟩=some (.bool s.marked):=fun X=>(hkb X).cell (j:=4) rfl
 have X9:∀ X:OnW T w,X.w.cell? ⟨b,9,none⟩=some (pAt a.t):=fun X=>(hkb X).cell (j:=9) rfl
 have X17:∀ X:OnW T w,X.w.cell? ⟨b,17,none⟩=some (.slice A s.X.length cap):=fun X=>((hkb X).cell (j:=17) rfl).trans (congrArg some HK.out.2.2)
 have X18:∀ X:OnW T w,X.w.cell? ⟨b,18,none⟩=some (.int .i64 (s.tokens:Int)):=fun X=>(hkb X).cell (j:=18) rfl
 have HBT:=qH (⟨hbT,hT⟩:_/\_)
 clear c17 d1 d2 hkb hbT hT
 by_cases hlo:s.lo=1
 ·have e1:((s.lo:Int) == 1)=true:=by simp[hlo]
  have HLO:=qH hlo
  clear hlo
  refine wp_region_mixO T 36 (.one [0,1,2,3,4,5,6,7,8,9,10,11,12,13,14,15,16,17,18,19,20,21,22,23,24,25,26,27,28] 29 (.one [30,31,32,33] 34 (.one [] 35 (.done [])))) (by kernel_rfl) (fun c d v a w h=>by cases d<;>exact h) (by kernel_rfl) ?_
  simp only[wpMixT,pk_nil,pk_cons,pushAt_zero,pushAt_succ,List.drop_succ_cons,List.drop_zero]
  repeat (go_big_quiet_step (fail))
  refine wpQuiet_nil ?_
  clear X0 X1 X2 X3 X4 X9 X17 X18
  go_wp2_with fail
  refine(H.out.up (Below.refl _ w).drew).tsize.mono ?_
  rintro e w2 ⟨rfl,hb2⟩
  have hb2':Below w.heap.size w w2:=up2 (Below.refl _ w).drew hb2
  clear hb2
  go_wp2_with fail
  refine thenQ_normal ⟨⟨⟨_,Only.of_below hb2'⟩,rfl⟩,?_⟩
  repeat (go_big_quiet_step (fail))
  refine wpQuiet_nil ?_
  go_wp2_with fail
  have hb3:=below1 w2 (.cells (encX ⟨s.pt,s.lo,s.hi,s.mark,s.marked,s.tokens,((s.hi:Int) ==(s.cs.length:Int)+1)⟩).toArray 128)
  refine thenQ_normal ⟨⟨⟨_,Only.of_below (up2 hb2' hb3)⟩,rfl⟩,?_⟩
  refine wpQuiet_nil ?_
  have hown0:ROwn encX 128 7 0 w2 (.slice A s.X.length cap) s.X:=by rw[<-HK.out.2.2];exact HK.out.2.1.exc.1.up hb2'
  obtain⟨v',w3,happ,hown,hb4,ho4,hnew⟩:=append_elem eltX (B:=0) (w:=w2) (xs:=s.X) (v:=.slice A s.X.length cap) hown0 (Nat.zero_le _) ⟨s.pt,s.lo,s.hi,s.mark,s.marked,s.tokens,((s.hi:Int) ==(s.cs.length:Int)+1)⟩ (by have:=HTK.out;omega) (by omega)
  refine wpList_app_run rfl _ _ _ rfl rfl rfl happ ?_
  go_wp2_with fail
  have hoT:Only T w w3:=(Only.of_below hb2').trans (ho4.mono (fun g hg=>by rw[HBT.out.2];exact hg))
  refine thenQ_normal ⟨⟨⟨_,hoT⟩,rfl⟩,?_⟩
  refine wpQuiet_nil ?_
  obtain⟨A',cp',hv,_,_,_⟩:=hown.shape eltX
  subst hv
  have hk3:=HK.out.2.1.buf.only hoT HBT.out.1
  have q17:=hk3.cell (j:=17) rfl
  have f17:=hk3.fz 17
  have q18:w3.cell? ⟨b,18,none⟩=some (.int .i64 (s.tokens:Int)):=hk3.cell (j:=18) rfl
  have f18:=hk3.fz 18
  have hco:Only (fun g=>col g=7) w w3:=hoT.mono (fun g hg=>by rw[HBT.out.2] at hg;exact HK.out.2.1.exc.2.1 g (HK.out.2.2▸hg))
  have hbe:(decide (s.lo=1) && decide (s.hi=s.cs.length+1))=((s.hi:Int) ==(s.cs.length:Int)+1):=by
   rw[decide_eq_true HLO.out,Bool.true_and,Bool.eq_iff_iff];simp;omega
  have HP:=qH (GBa.setExc (tk:=tk) HK.out.1 HK.out.2.1 hco hown (by have:=HTK.out;simp;omega) (fun g hg=>by
   rcases hnew with e|⟨g',e,hg'⟩
   ·rw[e] at hg
    exact .inl ⟨HK.out.2.1.exc.2.1 g (HK.out.2.2▸hg),HK.out.2.1.exc.1.lt (HK.out.2.2▸hg)⟩
   ·rw[e] at hg;cases hg;exact .inr (Nat.le_trans hb2'.size hg')))
  have HBE:=qH hbe
  clear hk3 hown hb4 ho4 happ hoT hco hb3 hb2' hown0 hnew hbe
  go_wp2_with fail
  go_ret2
  have he:({ s with X:=s.X++[⟨s.pt,s.lo,s.hi,s.mark,s.marked,s.tokens,((s.hi:Int) ==(s.cs.length:Int)+1)⟩],tokens:=tk }:St)=savS s:=by rw[<-HBE.out,HTK.out.1];rfl
  rw[<-he]
  have hP:=HP.out.to
  rw[List.length_append,List.length_singleton] at hP
  exact⟨rfl,hP⟩
 ·have e1:((s.lo:Int) == 1)=false:=by simp;omega
  have HLO:=qH hlo
  clear hlo
  refine wp_region_mixO T 36 (.one [0,1,2,3,4,5,6,7,8,9,10,11,12,13,14,15,16,17,18,19,20,21,22,23,24,25,26,27,28] 29 (.one [30,31,32,33] 34 (.one [] 35 (.done [])))) (by kernel_rfl) (fun c d v a w h=>by cases d<;>exact h) (by kernel_rfl) ?_
  simp only[wpMixT,pk_nil,pk_cons,pushAt_zero,pushAt_succ,List.drop_succ_cons,List.drop_zero]
  repeat (go_big_quiet_step (fail))
  refine wpQuiet_nil ?_
  clear X0 X1 X2 X3 X4 X9 X17 X18
  go_wp2_with fail
  have hb2':Below w.heap.size w w.drew:=(Below.refl _ w).drew
  refine thenQ_normal ⟨⟨⟨_,Only.of_below hb2'⟩,rfl⟩,?_⟩
  repeat (go_big_quiet_step (fail))
  refine wpQuiet_nil ?_
  go_wp2_with fail
  have hb3:=below1 w.drew (.cells (encX ⟨s.pt,s.lo,s.hi,s.mark,s.marked,s.tokens,false⟩).toArray 128)
  refine thenQ_normal ⟨⟨⟨_,Only.of_below (up2 hb2' hb3)⟩,rfl⟩,?_⟩
  refine wpQuiet_nil ?_
  have hown0:ROwn encX 128 7 0 w.drew (.slice A s.X.length cap) s.X:=by rw[<-HK.out.2.2];exact HK.out.2.1.exc.1.up hb2'
  obtain⟨v',w3,happ,hown,hb4,ho4,hnew⟩:=append_elem eltX (B:=0) (w:=w.drew) (xs:=s.X) (v:=.slice A s.X.length cap) hown0 (Nat.zero_le _) ⟨s.pt,s.lo,s.hi,s.mark,s.marked,s.tokens,false⟩ (by have:=HTK.out;omega) (by omega)
  refine wpList_app_run rfl _ _ _ rfl rfl rfl happ ?_
  go_wp2_with fail
  have hoT:Only T w w3:=(Only.of_below hb2').trans (ho4.mono (fun g hg=>by rw[HBT.out.2];exact hg))
  refine thenQ_normal ⟨⟨⟨_,hoT⟩,rfl⟩,?_⟩
  refine wpQuiet_nil ?_
  obtain⟨A',cp',hv,_,_,_⟩:=hown.shape eltX
  subst hv
  have hk3:=HK.out.2.1.buf.only hoT HBT.out.1
  have q17:=hk3.cell (j:=17) rfl
  have f17:=hk3.fz 17
  have q18:w3.cell? ⟨b,18,none⟩=some (.int .i64 (s.tokens:Int)):=hk3.cell (j:=18) rfl
  have f18:=hk3.fz 18
  have hco:Only (fun g=>col g=7) w w3:=hoT.mono (fun g hg=>by rw[HBT.out.2] at hg;exact HK.out.2.1.exc.2.1 g (HK.out.2.2▸hg))
  have hbe:(decide (s.lo=1) && decide (s.hi=s.cs.length+1))=false:=by
   rw[decide_eq_false HLO.out,Bool.false_and]
  have HP:=qH (GBa.setExc (tk:=tk) HK.out.1 HK.out.2.1 hco hown (by have:=HTK.out;simp;omega) (fun g hg=>by
   rcases hnew with e|⟨g',e,hg'⟩
   ·rw[e] at hg
    exact .inl ⟨HK.out.2.1.exc.2.1 g (HK.out.2.2▸hg),HK.out.2.1.exc.1.lt (HK.out.2.2▸hg)⟩
   ·rw[e] at hg;cases hg;exact .inr (Nat.le_trans hb2'.size hg')))
  have HBE:=qH hbe
  clear hk3 hown hb4 ho4 happ hoT hco hb3 hb2' hown0 hnew hbe
  go_wp2_with fail
  go_ret2
  have he:({ s with X:=s.X++[⟨s.pt,s.lo,s.hi,s.mark,s.marked,s.tokens,false⟩],tokens:=tk }:St)=savS s:=by rw[<-HBE.out,HTK.out.1];rfl
  rw[<-he]
  have hP:=HP.out.to
  rw[List.length_append,List.length_singleton] at hP
  exact⟨rfl,hP⟩
end
end Go.Proofs.YtkpoodjhjfmfjaaGreatDoor
namespace Go.Proofs.YtkpoodjhjfmfjaaGreatDoor
open Go.RowKit Go.Lib
open Ovs (PropE encP eltP)
def excI (X:List Exc) (t:Int):Option Nat:=X.findIdx? (fun x=>(x.tok:Int) == t)
def rstS (s:St) (i:Nat) (x:Exc):St:=
 standS (if x.whole=true then widS { s with X:=s.X.take i,pt:=x.pt,lo:=x.lo,hi:=x.hi,mark:=x.mark,marked:=x.marked } else { s with X:=s.X.take i,pt:=x.pt,lo:=x.lo,hi:=x.hi,mark:=x.mark,marked:=x.marked }) x.pt
def resS (s:St) (t:Int):St:=match excI s.X t with|some i=>(match s.X[i]? with|some x=>rstS s i x|none=>s)|none=>s
def resE (s:St) (t:Int):Int:=if (excI s.X t).isSome then 0 else 8
structure SameExc (s s':St):Prop where
 pr:s'.pr=s.pr
 ev:s'.ev=s.ev
 cs:s'.cs=s.cs
 M:s'.M=s.M
 mn:s'.mn=s.mn
 P:s'.P=s.P
 D:s'.D=s.D
 nx:s'.nx=s.nx
 L:s'.L=s.L
section
variable {w w' w1 : World} {N b n : Nat} {F R : Nat → Prop} {a : Adr} {s s' : St} {c : Chg}
theorem GBa.excB {col:Nat->Nat} {v':Value} (o:Out N w F R col) (k:Core w b col a s) (ho:Only (fun g=>col g=1\/col g=7) w w') (hb:BufB w' b (s'.bs { a with sv:=v' })) (hown:ROwn encX 128 7 0 w' v' s'.X) (hl:s'.X.length<=1000000)
  (hnew:∀ g,v'.ownBlock=some g->col g=7/\g<w.heap.size\/w.heap.size<=g) (hp:SameExc s s'):ToA N w b F R { a with sv:=v' } s' w':=by
 have he:=colG_eq (col:=col) w.heap.size 7
 have ho':Only (fun g=>(fun i=>i=1\/i=7) (col g)) w w':=ho
 have hcol:∀ g,v'.ownBlock=some g->colG col w.heap.size 7 g=7:=fun g hg=>by
  rcases hnew g hg with h|h
  ·exact(he g h.2).trans h.1
  ·exact if_neg (by omega)
 exact o.to (fun i=>i=1\/i=7) (fun i hi=>by omega) he ho' ⟨hb,k.cb_ he,by rw[hp.cs];exact k.gap_ (C:=fun i=>i=1\/i=7) ho' (by simp) he,by rw[hp.M,hp.mn];exact k.mks_ (C:=fun i=>i=1\/i=7) ho' (by simp) he,by rw[hp.P];exact k.prs_ (C:=fun i=>i=1\/i=7) ho' (by simp) (by simp) he,
  by rw[hp.pr,hp.ev,hp.D,hp.nx];exact k.ovs_ (C:=fun i=>i=1\/i=7) ho' (by simp) he,by rw[hp.L];exact k.log_ (C:=fun i=>i=1\/i=7) ho' (by simp) he,⟨hown,hcol,hl⟩⟩
set_option maxHeartbeats 1000000 in
theorem restore1_ok {k0:Nat} (x:Exc) (t:Int) (h0:w.cell? ⟨k0,0,none⟩=some (.int .i64 t)):Calls Tryz.prog 95 #[.agg (encX x).toArray,pAt k0] w fun r w'=>r=.returned (.bool ((x.tok:Int) == t))/\Below w.heap.size w w':=by
 obtain⟨pt,lo,hi,mark,marked,tok,whole⟩:=x
 have hb:=below1 w (.cells (encX ⟨pt,lo,hi,mark,marked,tok,whole⟩).toArray 128)
 have h1:=cell_up h0 hb
 obtain⟨z,hz⟩:∃ z,((tok:Int) == t)=z:=⟨_,rfl⟩
 go_enter Tryz.func95,Tryz.ntmps95
 go_wp2_with fail
 go_ret
 exact⟨by rw[hz];rfl,hb⟩
set_option maxRecDepth 100000 in
set_option maxHeartbeats 2000000 in
theorem idxX {k0:Nat} {A:Option Addr} {X:List Exc} (t:Int) (hR:RSl encX w A X) (c:Nat) (hl:X.length<=1000000) (h0:w.cell? ⟨k0,0,none⟩=some (.int .i64 t)) :
  Calls Tryz.prog 94 #[.slice A X.length c,.func (.func 95) #[] #[pAt k0]] w fun r w'=>r=.returned (.int .i64 (match excI X t with|some i=>(i:Int)|none=>-1))/\Below w.heap.size w w':=by
 have HC:=qH (fun(W:World) (hb:Below w.heap.size w W) (x:Exc)=>restore1_ok x t (cell_up h0 hb))
 have HR:=qH hR
 have hent:=enters_mk Tryz.func95 (by kernel_rfl) rfl
 have hin:∀(args:Array Value) (w:World),(callFunc 95 args).run Tryz.prog w=.ok (.enter 95 args) w:=hent
 obtain⟨RI,hRI⟩:∃ z:Int,z=(match excI X t with|some i=>(i:Int)|none=>-1):=⟨_,rfl⟩
 rw[<-hRI]
 have HRI:=qH hRI
 have HL:=qH hl
 clear hR h0 hRI hl
 go_enter Tryz.func94,Tryz.ntmps94
 go_wp2_with fail
 go_loopw [8] (fun va wr=>∃ i:Nat,i<=X.length/\va=.int .i64 (i:Int)/\(∀(j:Nat) (x:Exc),j<i->X[j]?=some x->((x.tok:Int) == t)=false)/\Below w.heap.size w wr) (fun va _=>X.length -(intOf va).toNat)
 case atStart=>exact⟨0,Nat.zero_le _,rfl,fun j x hj=>by omega,Below.refl _ _⟩
 case round=>
  obtain⟨i,hi,rfl,hz,hbr⟩:=hrel
  have HZ:=qH (⟨hz,hbr⟩:_/\_)
  by_cases hlt:i<X.length
  ·obtain⟨x,hx⟩:∃ x,X[i]?=some x:=⟨_,List.getElem?_eq_getElem hlt⟩
   obtain⟨g,o,rfl,hg,hat⟩:=(HR.out.up hbr).at_ eltX hx
   obtain⟨pt,lo,hi,mark,marked,tok,whole⟩:=x
   have x0:=hat 0 _ rfl
   have x1:=hat 1 _ rfl
   have x2:=hat 2 _ rfl
   have x3:=hat 3 _ rfl
   have x4:=hat 4 _ rfl
   have x5:=hat 5 _ rfl
   have x6:=hat 6 _ rfl
   simp only[Nat.add_zero] at x0
   rw[<-Nat.add_assoc] at x1 x2 x3 x4 x5 x6
   have d1:(i:Int)<X.length:=by omega
   have e1:IntKind.i64.wrap ((i:Int)+1)=((i+1:Nat):Int):=by have:=HL.out;rw[IntWalk.i64_in _ (by omega)];omega
   have HX:=qH (⟨hx,hlt⟩:_/\_)
   cases ht:((tok:Int) == t) with
   | true=>
     have HCC:=qH (show Calls Tryz.prog 95 #[.agg (encX ⟨pt,lo,hi,mark,marked,tok,whole⟩).toArray,pAt k0] wr fun r w'=>r=.returned (.bool true)/\Below wr.heap.size wr w' from ht▸HC.out wr hbr ⟨pt,lo,hi,mark,marked,tok,whole⟩)
     have hri:RI=(i:Int):=by
      rw[HRI.out]
      have:excI X t=some i:=by
       unfold excI
       rw[List.findIdx?_eq_some_iff_getElem]
       refine⟨hlt,?_,fun j hj=>?_⟩
       ·rw[List.getElem?_eq_getElem hlt] at hx
        rw[Option.some.inj hx];exact ht
       ·have:=hz j _ hj (List.getElem?_eq_getElem (by omega))
        rw[this];simp
      rw[this]
     have HRR:=qH hri
     clear hx hat hz hbr hlt ht hri
     go_wp2_with fail
     refine HCC.out.mono ?_
     rintro r w1 ⟨rfl,hb1⟩
     go_wp2_with fail
     go_ret
     exact⟨by rw[HRR.out];rfl,up2 HZ.out.2 hb1⟩
   | false=>
     have HCC:=qH (show Calls Tryz.prog 95 #[.agg (encX ⟨pt,lo,hi,mark,marked,tok,whole⟩).toArray,pAt k0] wr fun r w'=>r=.returned (.bool false)/\Below wr.heap.size wr w' from ht▸HC.out wr hbr ⟨pt,lo,hi,mark,marked,tok,whole⟩)
     have HT:=qH ht
     clear hx hat hz hbr hlt ht
     go_wp2_with fail
     refine HCC.out.mono ?_
     rintro r w1 ⟨rfl,hb1⟩
     go_wp2_with fail
     go_roundw
     case rel=>
      refine⟨i+1,by have:=HX.out.2;omega,by first|rfl|go_num,fun j y hj hy=>?_,up2 HZ.out.2 hb1⟩
      by_cases hji:j=i
      ·subst hji
       have:=HX.out.1
       rw[hy] at this
       cases this
       exact HT.out
      ·exact HZ.out.1 j y (by omega) hy
     case measure=>have:=HX.out.2;simp[intOf];omega
  ·obtain rfl:i=X.length:=by omega
   have hri:RI=-1:=by
    rw[HRI.out]
    have:excI X t=none:=by
     unfold excI
     rw[List.findIdx?_eq_none_iff]
     intro x hx
     obtain⟨j,hj⟩:=List.getElem?_of_mem hx
     exact hz j x (List.getElem?_eq_some_iff.1 hj).1 hj
    rw[this]
   have HRR:=qH hri
   clear hz hbr hlt hri hi
   go_wp2_with fail
   go_ret
   exact⟨by rw[HRR.out];rfl,HZ.out.2⟩
set_option maxRecDepth 100000 in
set_option maxHeartbeats 4000000 in
theorem Restore_ok (h:GBa N w b F R a s) (hB:Pos s 900000000) (t:Int) (hl:s.X.length<=200) :
  Calls Tryz.prog 32 #[pAt b,.int .i64 t] w fun r w'=>r=.returned (.int .i64 (resE s t))/\To N w b F R (resS s t) w':=by
 have hb:=below1 w (.cells #[.int .i64 t] 3)
 have hk:=Blk.made w 3 #[.int .i64 t]
 obtain⟨col,o,k⟩:=h.up hb
 obtain⟨A,cap,hsl,hcp,hcm,hrs⟩:=k.exc.1.shape eltX
 have H0:=qH h
 have H:=qH (h.up hb)
 have HB:=qH hb
 have HI:=qH (idxX t hrs cap (by omega) (hk.cell (j:=0) rfl))
 obtain⟨S2,hS2⟩:∃ z,z=resS s t:=⟨_,rfl⟩
 obtain⟨E,hE⟩:∃ z,z=resE s t:=⟨_,rfl⟩
 rw[<-hS2,<-hE]
 have HS:=qH (⟨hS2,hE,hl,hB⟩:_/\_/\_/\_)
 have HK:=qH (⟨o,k,hsl,hcp,hcm,hrs⟩:_/\_/\_/\_/\_/\_)
 clear h hk hb hl hB o k hsl hcp hcm hrs hS2 hE
 go_enter Tryz.func32,Tryz.ntmps32
 go_wp2_with fail
 generalize w.alloc (.cells #[.int .i64 t] 3)=W at *
 refine H.out.none_.mono ?_
 rintro e w1 ⟨rfl,rfl⟩
 have c17:W.cell? ⟨b,17,none⟩=some (.slice A s.X.length cap):=by rw[<-HK.out.2.2.1];exact HK.out.2.1.buf.cell (j:=17) rfl
 go_wp2_with fail
 refine HI.out.mono ?_
 rintro e w2 ⟨rfl,hb2⟩
 have B2:=qH hb2
 cases hx:excI s.X t with
 | none=>
   have hs:S2=s:=by rw[HS.out.1];unfold resS;rw[hx]
   have he:E=8:=by rw[HS.out.2.1];unfold resE;rw[hx];rfl
   have HH:=qH (⟨hs,he⟩:_/\_)
   clear hs he hx hb2 c17
   go_wp2_with fail
   go_ret
   refine⟨by rw[HH.out.2];rfl,?_⟩
   rw[HH.out.1]
   exact(ToA.of_below H0.out (up2 HB.out B2.out)).to
 | some i=>
   have hil:i<s.X.length:=by
    unfold excI at hx
    rw[List.findIdx?_eq_some_iff_getElem] at hx
    exact hx.1
   obtain⟨x,hxi⟩:∃ x,s.X[i]?=some x:=⟨_,List.getElem?_eq_getElem hil⟩
   have hs:S2=rstS s i x:=by rw[HS.out.1];unfold resS;rw[hx];simp only;rw[hxi]
   have he:E=0:=by rw[HS.out.2.1];unfold resE;rw[hx];rfl
   have hxp:=HS.out.2.2.2.X1 x (List.mem_of_getElem? hxi)
   obtain⟨g,og,hAg,hg,hat⟩:=(HK.out.2.2.2.2.2.up hb2).at_ eltX hxi
   have hk2:=HK.out.2.1.buf.up hb2
   have q17:w2.cell? ⟨b,17,none⟩=some (.slice A s.X.length cap):=by rw[<-HK.out.2.2.1];exact hk2.cell (j:=17) rfl
   have f17:=hk2.fz 17
   have q0:=hk2.cell (j:=0) rfl
   have q1:=hk2.cell (j:=1) rfl
   have q2:=hk2.cell (j:=2) rfl
   have q3:=hk2.cell (j:=3) rfl
   have q4:=hk2.cell (j:=4) rfl
   have f0:=hk2.fz 0
   have f1:=hk2.fz 1
   have f2:=hk2.fz 2
   have f3:=hk2.fz 3
   have f4:=hk2.fz 4
   have hgb:¬ g=b:=by
    intro e
    have hown:a.sv.ownBlock=some g:=by
     obtain⟨g',cap',hv',_,_,_,_⟩:=HK.out.2.1.exc.1.lies eltX (by omega)
     obtain⟨e3,_,_⟩:=Value.slice.inj (hv'.symm.trans HK.out.2.2.1)
     rw[hAg] at e3
     cases e3
     rw[hv'];rfl
    have h7:col g=7:=HK.out.2.1.exc.2.1 g hown
    rw[e,HK.out.2.1.cb] at h7;omega
   subst hAg
   obtain⟨xpt,xlo,xhi,xmark,xmarked,xtok,xwhole⟩:=x
   have x0:=hat 0 _ rfl
   have x1:=hat 1 _ rfl
   have x2:=hat 2 _ rfl
   have x3:=hat 3 _ rfl
   have x4:=hat 4 _ rfl
   have x5:=hat 5 _ rfl
   have x6:=hat 6 _ rfl
   simp only[Nat.add_zero] at x0
   rw[<-Nat.add_assoc] at x1 x2 x3 x4 x5 x6
   have d1:(i:Int)<s.X.length:=by omega
   have d2:(i:Int)<=s.X.length:=by omega
   have d3:((i:Int)<0)=False:=eq_false (by omega)
   have d4:(i:Int)<=(cap:Int):=by have:=HK.out.2.2.2.1;omega
   have d5:i<=cap:=by have:=HK.out.2.2.2.1;omega
   have hblt:=hk2.lt
   have HH:=qH (⟨hs,he,hil,hxp,hgb,hk2,hg⟩:_/\_/\_/\_/\_/\_/\_)
   clear hs he hx hb2 c17 hil hxi hxp hat hk2 hg
   have ho3:Only (fun k=>k=b) w2 ((((((w2.setCell ⟨b,17,none⟩ (.slice (some ⟨g,og,none⟩) i cap)).setCell ⟨b,0,none⟩ (.int .i64 (xpt:Int))).setCell ⟨b,1,none⟩ (.int .i64 (xlo:Int))).setCell ⟨b,2,none⟩ (.int .i64 (xhi:Int))).setCell ⟨b,3,none⟩ (.int .i64 (xmark:Int))).setCell ⟨b,4,none⟩ (.bool xmarked)):=
    ((((((Only.refl (fun k=>k=b) w2).setCell (p:=⟨b,17,none⟩) rfl _).setCell (p:=⟨b,0,none⟩) rfl _).setCell (p:=⟨b,1,none⟩) rfl _).setCell (p:=⟨b,2,none⟩) rfl _).setCell (p:=⟨b,3,none⟩) rfl _).setCell (p:=⟨b,4,none⟩) rfl _
   have hk3:=(((((HH.out.2.2.2.2.2.1.set (j:=17) (by simp) (.slice (some ⟨g,og,none⟩) i cap)).set (j:=0) (by simp) (.int .i64 (xpt:Int))).set (j:=1) (by simp) (.int .i64 (xlo:Int))).set (j:=2) (by simp) (.int .i64 (xhi:Int))).set (j:=3) (by simp) (.int .i64 (xmark:Int))).set (j:=4) (by simp) (.bool xmarked)
   have hcut:ROwn encX 128 7 0 w2 (.slice (some ⟨g,og,none⟩) i cap) (s.X.take i):=by
    have h1:=HK.out.2.1.exc.1.up B2.out
    rw[HK.out.2.2.1] at h1
    exact h1.cut eltX rfl i (Nat.le_of_lt HH.out.2.2.1)
   have h7:∀ k,Value.ownBlock (.slice (some ⟨g,og,none⟩) i cap)=some k->col k=7/\k<W.heap.size:=fun k hk=>by
    have hk':a.sv.ownBlock=some k:=by rw[HK.out.2.2.1];exact hk
    exact⟨HK.out.2.1.exc.2.1 k hk',HK.out.2.1.exc.1.lt hk'⟩
   have hT3:ToA N W b F R { a with sv:=.slice (some ⟨g,og,none⟩) i cap } { s with X:=s.X.take i,pt:=xpt,lo:=xlo,hi:=xhi,mark:=xmark,marked:=xmarked } ((((((w2.setCell ⟨b,17,none⟩ (.slice (some ⟨g,og,none⟩) i cap)).setCell ⟨b,0,none⟩ (.int .i64 (xpt:Int))).setCell ⟨b,1,none⟩ (.int .i64 (xlo:Int))).setCell ⟨b,2,none⟩ (.int .i64 (xhi:Int))).setCell ⟨b,3,none⟩ (.int .i64 (xmark:Int))).setCell ⟨b,4,none⟩ (.bool xmarked)):=
    GBa.excB HK.out.1 HK.out.2.1 ((Only.of_below B2.out).trans (ho3.mono (fun k hk=>.inl (hk▸HK.out.2.1.cb)))) hk3 (hcut.kept fun k hk=>ho3.block k (hcut.lt hk) (fun e=>by have:=(h7 k hk).1;rw[e,HK.out.2.1.cb] at this;omega)) (by rw[List.length_take];have:=HS.out.2.2.1;omega) (fun k hk=>.inl (h7 k hk)) ⟨rfl,rfl,rfl,rfl,rfl,rfl,rfl,rfl,rfl⟩
   have H3:=qH hT3
   have hz3:((((((w2.setCell ⟨b,17,none⟩ (.slice (some ⟨g,og,none⟩) i cap)).setCell ⟨b,0,none⟩ (.int .i64 (xpt:Int))).setCell ⟨b,1,none⟩ (.int .i64 (xlo:Int))).setCell ⟨b,2,none⟩ (.int .i64 (xhi:Int))).setCell ⟨b,3,none⟩ (.int .i64 (xmark:Int))).setCell ⟨b,4,none⟩ (.bool xmarked)).heap.size=w2.heap.size:=by simp[World.setCell]
   have HZ3:=qH hz3
   clear ho3 hk3 hcut h7 hT3 hz3
   cases xwhole with
   | false=>
     go_wp2_with fail
     have H4:=qH (H3.out.below (below1 _ (.cells #[.int .i64 (xpt:Int),.int .i64 (xlo:Int),.int .i64 (xhi:Int),.int .i64 (xmark:Int),.bool xmarked,.int .i64 (xtok:Int),.bool false] 128)))
     refine(H4.out.gb.stand xpt).mono ?_
     rintro e w6 ⟨rfl,ht⟩
     have HP:=qH (H4.out.trans ht)
     clear ht
     go_wp2_with fail
     go_ret
     refine⟨by rw[HH.out.2.1];rfl,?_⟩
     rw[HH.out.1]
     exact(ToA.before H0.out HB.out HP.out).to
   | true=>
     go_wp2_with fail
     have hbx:=below1 ((((((w2.setCell ⟨b,17,none⟩ (.slice (some ⟨g,og,none⟩) i cap)).setCell ⟨b,0,none⟩ (.int .i64 (xpt:Int))).setCell ⟨b,1,none⟩ (.int .i64 (xlo:Int))).setCell ⟨b,2,none⟩ (.int .i64 (xhi:Int))).setCell ⟨b,3,none⟩ (.int .i64 (xmark:Int))).setCell ⟨b,4,none⟩ (.bool xmarked)) (.cells #[.int .i64 (xpt:Int),.int .i64 (xlo:Int),.int .i64 (xhi:Int),.int .i64 (xmark:Int),.bool xmarked,.int .i64 (xtok:Int),.bool true] 128)
     have hkx:=Blk.made ((((((w2.setCell ⟨b,17,none⟩ (.slice (some ⟨g,og,none⟩) i cap)).setCell ⟨b,0,none⟩ (.int .i64 (xpt:Int))).setCell ⟨b,1,none⟩ (.int .i64 (xlo:Int))).setCell ⟨b,2,none⟩ (.int .i64 (xhi:Int))).setCell ⟨b,3,none⟩ (.int .i64 (xmark:Int))).setCell ⟨b,4,none⟩ (.bool xmarked)) 128 #[.int .i64 (xpt:Int),.int .i64 (xlo:Int),.int .i64 (xhi:Int),.int .i64 (xmark:Int),.bool xmarked,.int .i64 (xtok:Int),.bool true]
     have HBX:=qH (⟨hbx,hkx⟩:_/\_)
     have hwd:=Widen_ok (H3.out.rebase hbx)
     have HWD:=qH hwd
     clear hbx hkx hwd
     refine HWD.out.mono ?_
     rintro e w5 ⟨rfl,ht⟩
     have hkx5:=HBX.out.2.only ht.2 (fun e=>by have:=e.2;omega)
     rw[HZ3.out] at hkx5
     have y0:=hkx5.cell (j:=0) rfl
     have H5:=qH (H3.out.after HBX.out.1 ht)
     clear ht hkx5 HWD
     go_wp2_with fail
     refine(H5.out.gb.stand xpt).mono ?_
     rintro e w6 ⟨rfl,ht⟩
     have HP:=qH (H5.out.trans ht)
     clear ht
     go_wp2_with fail
     go_ret
     refine⟨by rw[HH.out.2.1];rfl,?_⟩
     rw[HH.out.1]
     exact(ToA.before H0.out HB.out HP.out).to
end
end Go.Proofs.YtkpoodjhjfmfjaaGreatDoor
namespace Go.Proofs.YtkpoodjhjfmfjaaGreatDoor
open Go.RowKit Go.Lib
open Ovs (PropE)
def revertS (s:St) (c:Chg):St:=
 if c.k=1 then standS (takeS s c.a.toNat c.b.toNat) c.a.toNat
 else if c.k=2 then standS (putS s c.a.toNat c.tx false) c.a.toNat
 else if c.k=3 then { s with M:=(Mks.moveR s.M s.mn c.id c.a).m,mn:=(Mks.moveR s.M s.mn c.id c.a).n }
 else if c.k=4 then standS s c.a.toNat
 else if c.k=5 then setS s c.a c.b c.nm (wantOf c.had c.vk c.vn)
 else { s with clean:=s.tick }
structure ChgLe (c:Chg) (B:Nat):Prop where
 ok:ChgOk c
 b:c.k=1->c.b<=B
 a:c.k≠6->c.a<=B
theorem ChgLe.mono {c:Chg} {A B:Nat} (h:ChgLe c A) (hab:A<=B):ChgLe c B:=⟨h.ok,fun e=>by have:=h.b e;omega,fun e=>by have:=h.a e;omega⟩
section
variable {w w' w1 : World} {N b n : Nat} {F R : Nat → Prop} {a : Adr} {s s' : St} {c : Chg}
theorem GBa.mmoveT (h:GBa N w b F R a s) (id x:Int):∃ T:Nat->Prop,¬ T b/\(∀ k,T k->F k)/\∀ w',Below w.heap.size w w' ->
  Calls Tryz.prog 98 #[pAt a.m,.int .i64 id,.int .i64 x] w' fun e w2=>e=.returned (.int .i64 (Mks.moveR s.M s.mn id x).err)/\Only T w' w2/\ToA N w' b F R a { s with M:=(Mks.moveR s.M s.mn id x).m,mn:=(Mks.moveR s.M s.mn id x).n } w2:=by
 obtain⟨col,o,k⟩:=h
 obtain⟨bm,h1,h2,h3,h4⟩:=k.mks
 refine⟨fun i=>i=a.m\/i=bm,fun e=>e.elim (fun e=>by rw[<-e,k.cb] at h2;omega) (fun e=>by rw[<-e,k.cb] at h3;omega),fun i hi=>hi.elim (fun e=>o.inF i (by rw[e,h2];omega) (by rw[e,h2];omega)) (fun e=>o.inF i (by rw[e,h3];omega) (by rw[e,h3];omega)),fun w' hb=>?_⟩
 have k':=k.keep (Only.of_below hb) (col':=col) (fun _ _=>rfl)
 have o':Out N w' F R col:=⟨o.tb.up hb,o.rl.up hb,o.hN,Nat.le_trans o.sz hb.size,o.inF,o.inR⟩
 have hbo:Only (fun _=>False) w w':=Only.of_below hb
 have hm:=h1.kept (hbo.block a.m h1.lt (fun e=>e)) (hbo.block bm h1.im.lt (fun e=>e))
 exact(Mks.move_all hm id x).mono fun e w2 ⟨he,hm',ho⟩=>⟨he,ho,GBa.setMks o' k' (ho.mono fun i hi=>hi.elim (fun e=>e▸h2) (fun e=>e▸h3)) ⟨bm,hm',h2,h3,h4.move id x⟩⟩
set_option maxRecDepth 100000 in
set_option maxHeartbeats 4000000 in
theorem revert1_ok (hbb:GBa N w b F R a s) (hFl:∀ k,F k->k≠w.heap.size) (hB:Pos s 1000000000) (hc:ChgLe c 1000000000) :
  Calls Tryz.prog 85 #[pAt b,chgV c] w fun r w'=>r=.returned (.tuple #[])/\To N w b F R (revertS s c) w':=by
 obtain⟨k,p,e,id,nm,tx,vk,vn,had⟩:=c
 have hb:=below1 w (.cells (chgA ⟨k,p,e,id,nm,tx,vk,vn,had⟩) 121)
 have hk:=Blk.made w 121 (chgA ⟨k,p,e,id,nm,tx,vk,vn,had⟩)
 have hz:(w.alloc (.cells (chgA ⟨k,p,e,id,nm,tx,vk,vn,had⟩) 121)).heap.size=w.heap.size+1:=by simp
 have h1:=hbb.up hb
 have H0:=qH hbb
 have HB:=qH hB
 have HK:=qH hk
 have HD:=qH hb
 have HF:=qH hFl
 have k0:_=some (Value.int .i64 k):=hk.cell (j:=0) rfl
 have k1:_=some (Value.int .i64 p):=hk.cell (j:=1) rfl
 unfold revertS
 have hok:=hc.ok
 rcases hok.k with hh|hh|hh|hh|hh|hh<;>dsimp only at hh<;>subst hh
 ·have g1:=hok.a (by simp)
  have g2:=hok.b (.inl rfl)
  have g3:=hc.b rfl
  dsimp only at g1 g2 g3
  obtain⟨x,rfl⟩:∃ x:Nat,p=x:=⟨p.toNat,by omega⟩
  obtain⟨y,rfl⟩:∃ y:Nat,e=y:=⟨e.toNat,by omega⟩
  simp only[if_true,Int.toNat_natCast]
  have HX:=qH (take_ok h1 hB x y (by omega) (by omega) (by omega))
  have k2:_=some (Value.int .i64 (y:Int)):=hk.cell (j:=2) rfl
  obtain⟨S2,hS2⟩:∃ z,z=takeS s x y:=⟨_,rfl⟩
  rw[<-hS2] at HX ⊢
  clear hok hc g1 g2 g3 hk hb hB hbb hz h1 hS2 hFl
  go_enter Tryz.func85,Tryz.ntmps85
  go_wp2_with fail
  generalize w.alloc (.cells (chgA ⟨1,(x:Int),(y:Int),id,nm,tx,vk,vn,had⟩) 121)=W at *
  refine HX.out.mono ?_
  rintro r w2 ⟨rfl,ht⟩
  have H2:=qH ht
  have hk2:=HK.out.only ht.2 (fun e=>HF.out _ e rfl)
  have q1:_=some (Value.int .i64 (x:Int)):=hk2.cell (j:=1) rfl
  clear ht hk2 k0 k1 k2 HX
  go_wp2_with fail
  refine(H2.out.gb.stand x).mono ?_
  rintro r w3 ⟨rfl,ht⟩
  have H3:=qH (H2.out.trans ht)
  clear ht
  go_wp2_with fail
  go_end0
  exact⟨rfl,_,ToA.before H0.out HD.out H3.out⟩
 ·have g1:=hok.a (by simp)
  have g2:=hok.tx rfl
  have g3:=hc.a (by simp)
  dsimp only at g1 g2 g3
  obtain⟨x,rfl⟩:∃ x:Nat,p=x:=⟨p.toNat,by omega⟩
  simp only[Int.reduceEq,if_true,if_false,Int.toNat_natCast]
  have HX:=qH (put_ok h1 hB x (by omega) (by omega) tx g2.2 g2.1 false)
  have k5:_=some (Value.string tx):=hk.cell (j:=5) rfl
  obtain⟨S2,hS2⟩:∃ z,z=putS s x tx false:=⟨_,rfl⟩
  rw[<-hS2] at HX ⊢
  clear hok hc g1 g2 g3 hk hb hB hbb hz h1 hS2 hFl
  go_enter Tryz.func85,Tryz.ntmps85
  go_wp2_with fail
  generalize w.alloc (.cells (chgA ⟨2,(x:Int),e,id,nm,tx,vk,vn,had⟩) 121)=W at *
  refine HX.out.mono ?_
  rintro r w2 ⟨rfl,ht⟩
  have H2:=qH ht
  have hk2:=HK.out.only ht.2 (fun e=>HF.out _ e rfl)
  have q1:_=some (Value.int .i64 (x:Int)):=hk2.cell (j:=1) rfl
  clear ht hk2 k0 k1 k5 HX
  go_wp2_with fail
  refine(H2.out.gb.stand x).mono ?_
  rintro r w3 ⟨rfl,ht⟩
  have H3:=qH (H2.out.trans ht)
  clear ht
  go_wp2_with fail
  go_end0
  exact⟨rfl,_,ToA.before H0.out HD.out H3.out⟩
 ·simp only[Int.reduceEq,if_true,if_false]
  obtain⟨T,hT1,hT2,hT3⟩:=h1.mmoveT id p
  have HX:=qH (⟨hT1,hT2,hT3⟩:_/\_/\_)
  have hkb:=fun(X:OnW T (w.alloc (.cells (chgA ⟨3,p,e,id,nm,tx,vk,vn,had⟩) 121)))=>h1.buf.only X.on hT1
  have hks:=fun(X:OnW T (w.alloc (.cells (chgA ⟨3,p,e,id,nm,tx,vk,vn,had⟩) 121)))=>hk.only X.on (fun e=>hFl _ (hT2 _ e) rfl)
  have k3:_=some (Value.int .i64 id):=hk.cell (j:=3) rfl
  have c10:_=some (pAt a.m):=h1.cm
  have H1:=qH h1
  clear hok hc hk hb hB hbb hz h1 hFl
  go_enter Tryz.func85,Tryz.ntmps85
  go_wp2_with fail
  generalize w.alloc (.cells (chgA ⟨3,p,e,id,nm,tx,vk,vn,had⟩) 121)=W at *
  have X1:∀ X:OnW T W,X.w.cell? ⟨w.heap.size,1,none⟩=some (.int .i64 p):=fun X=>(hks X).cell (j:=1) rfl
  have X2:∀ X:OnW T W,X.w.cell? ⟨w.heap.size,3,none⟩=some (.int .i64 id):=fun X=>(hks X).cell (j:=3) rfl
  have X3:∀ X:OnW T W,X.w.cell? ⟨b,10,none⟩=some (pAt a.m):=fun X=>(hkb X).cell (j:=10) rfl
  clear hkb hks hT1 hT2 hT3
  refine wp_region_mixO T 9 (.one [0,1,2,3,4,5,6,7] 8 (.done [])) (by kernel_rfl) (fun c d v a w h=>by cases d<;>exact h) (by kernel_rfl) ?_
  simp only[wpMixT,pk_nil,pk_cons,pushAt_zero,pushAt_succ,List.drop_succ_cons,List.drop_zero]
  repeat (go_big_quiet_step (fail))
  refine wpQuiet_nil ?_
  clear X1 X2 X3 k0 k1 k3 c10
  go_wp2_with fail
  refine(HX.out.2.2 _ (Below.refl _ W).drew).mono ?_
  rintro r w2 ⟨rfl,ho,ht⟩
  have H2:=qH (ToA.before H1.out (Below.refl _ W).drew ht)
  have hoT:Only T W w2:=(Only.of_below (Below.refl _ W).drew).trans ho
  clear ht ho
  go_wp2_with fail
  refine thenQ_normal ⟨⟨⟨_,hoT⟩,rfl⟩,?_⟩
  refine wpQuiet_nil ?_
  go_wp2_with fail
  go_end0
  exact⟨rfl,_,ToA.before H0.out HD.out H2.out⟩
 ·have g1:=hok.a (by simp)
  dsimp only at g1
  obtain⟨x,rfl⟩:∃ x:Nat,p=x:=⟨p.toNat,by omega⟩
  simp only[Int.reduceEq,if_true,if_false,Int.toNat_natCast]
  have HX:=qH (h1.stand x)
  clear hok hc hk hb hB hbb hz h1 hFl g1
  go_enter Tryz.func85,Tryz.ntmps85
  go_wp2_with fail
  generalize w.alloc (.cells (chgA ⟨4,(x:Int),e,id,nm,tx,vk,vn,had⟩) 121)=W at *
  refine HX.out.mono ?_
  rintro r w2 ⟨rfl,ht⟩
  have H2:=qH ht
  clear ht k0 k1 HX
  go_wp2_with fail
  go_end0
  exact⟨rfl,_,ToA.before H0.out HD.out H2.out⟩
 ·simp only[Int.reduceEq,if_true,if_false]
  have HX:=qH (set_ok h1 hB p e nm vk vn had)
  have k2:_=some (Value.int .i64 e):=hk.cell (j:=2) rfl
  have k4:_=some (Value.int .i64 nm):=hk.cell (j:=4) rfl
  have k6:_=some (Value.int .i64 vk):=hk.cell (j:=6) rfl
  have k7:_=some (Value.int .i64 vn):=hk.cell (j:=7) rfl
  have k8:_=some (Value.bool had):=hk.cell (j:=8) rfl
  obtain⟨S2,hS2⟩:∃ z,z=setS s p e nm (wantOf had vk vn):=⟨_,rfl⟩
  rw[<-hS2] at HX ⊢
  obtain⟨E2,hE2⟩:∃ z,z=setE s.P p e nm (wantOf had vk vn):=⟨_,rfl⟩
  rw[<-hE2] at HX
  clear hok hc hk hb hB hbb hz h1 hS2 hE2 hFl
  go_enter Tryz.func85,Tryz.ntmps85
  go_wp2_with fail
  generalize w.alloc (.cells (chgA ⟨5,p,e,id,nm,tx,vk,vn,had⟩) 121)=W at *
  refine HX.out.mono ?_
  rintro r w2 ⟨rfl,ht⟩
  have H2:=qH ht
  clear ht k0 k1 k2 k4 k6 k7 k8 HX
  go_wp2_with fail
  go_end0
  exact⟨rfl,To.before H2.out H0.out HD.out⟩
 ·simp only[Int.reduceEq,if_true,if_false]
  have c7:_=some (Value.int .i64 (s.tick:Int)):=h1.ctick
  have c8:_=some (Value.int .i64 (s.clean:Int)):=h1.buf.cell (j:=8) rfl
  have f8:=h1.buf.fz 8
  have H1:=qH h1
  clear hok hc hk hb hB hbb hz h1 hFl
  go_enter Tryz.func85,Tryz.ntmps85
  go_wp2_with fail
  have hst:=H1.out.store { s with clean:=s.tick } (j:=8) (by omega) (.int .i64 (s.tick:Int)) ⟨rfl,rfl,rfl,rfl,rfl,rfl,rfl,rfl,rfl,rfl⟩ rfl
  go_end0
  exact⟨rfl,_,ToA.before H0.out HD.out hst⟩
theorem revert_ok (h:GBa N w b F R a s) (hB:Pos s 1000000000) (hc:ChgLe c 1000000000) :
  Calls Tryz.prog 85 #[pAt b,chgV c] w fun r w'=>r=.returned (.tuple #[])/\To N w b F R (revertS s c) w':=by
 refine(revert1_ok h.bound (fun k hk e=>by have:=hk.2;omega) hB hc).mono ?_
 rintro r w' ⟨rfl,a',ht⟩
 exact⟨rfl,a',ht.widen (fun k hk=>hk.1) (fun k hk=>hk.1) h.hN h.sz⟩
def LUndo (N:Nat) (w:World) (b:Nat) (F R:Nat->Prop) (a:Adr) (s:St) (c:Int) (r:Ending) (w':World):Prop:=
 ∃ n,w.heap.size<=n/\n<=w'.heap.size/\Only F w w' /\
   ((c=0/\r=.returned (.tuple #[.slice none 0 0,.int .i64 13])/\GBa N w' b (fun k=>grow F w.heap.size k/\k<n) (fun k=>grow R w.heap.size k/\k<n) a { s with L:=⟨s.L.close.G,[],0⟩ }) \/
    ∃(m:Nat) (g:List Chg) (v:Value),c=((m+1:Nat):Int)/\s.L.close.G[m]?=some g/\r=.returned (.tuple #[v,.int .i64 0])/\GBa N w' b (fun k=>grow F w.heap.size k/\k<n) (fun k=>grow R w.heap.size k/\k<n) a { s with L:=⟨s.L.close.G,[],m⟩ }/\ROwn encCg 121 9 n w' v g.reverse)
theorem GBa.setLogN {L':Lg} {col:Nat->Nat} {n:Nat} (o:Out N w F R col) (k:Core w b col a s) (ho:Only (fun k=>col k=6) w w') (hn1:w.heap.size<=n) (hg:LogT w' a.l (fun i=>grow (fun k=>col k=6) w.heap.size i/\i<n) L') :
  GBa N w' b (fun k=>grow F w.heap.size k/\k<n) (fun k=>grow R w.heap.size k/\k<n) a { s with L:=L' }:=by
 have he:ColEq w.heap.size col (fun i=>if i<w.heap.size then col i else if i<n then 6 else 0):=fun i hi=>if_pos hi
 have h6:∀ i,grow (fun k=>col k=6) w.heap.size i/\i<n->(if i<w.heap.size then col i else if i<n then 6 else 0)=6:=fun i hi=>by
  by_cases hl:i<w.heap.size
  ·rw[if_pos hl];exact hi.1.elim id (fun e=>by omega)
  ·rw[if_neg hl,if_pos hi.2]
 obtain⟨o1,o2,o3,o4,o5,o6⟩:=o
 have hzN:∀ k,col k=6->N<=k:=fun k hk=>o3 k (o5 k (by omega) (by omega))
 refine⟨_,⟨o1.only ho hzN,o2.only ho hzN,fun i hi=>hi.1.elim (o3 i) (fun e=>by omega),Nat.le_trans o4 ho.size,fun i g1 g2=>?_,fun i g=>?_⟩,
  ⟨k.buf_ (C:=fun i=>i=6) ho (by simp),k.cb_ he,k.gap_ (C:=fun i=>i=6) ho (by simp) he,k.mks_ (C:=fun i=>i=6) ho (by simp) he,k.prs_ (C:=fun i=>i=6) ho (by simp) (by simp) he,k.ovs_ (C:=fun i=>i=6) ho (by simp) he,hg.mono h6,k.exc_ (C:=fun i=>i=6) ho (by simp) he⟩⟩
 ·by_cases hl:i<w.heap.size
  ·rw[if_pos hl] at g1 g2;exact⟨.inl (o5 i g1 g2),by omega⟩
  ·rw[if_neg hl] at g1
   by_cases hl2:i<n
   ·exact⟨.inr (by omega),hl2⟩
   ·rw[if_neg hl2] at g1;omega
 ·by_cases hl:i<w.heap.size
  ·rw[if_pos hl] at g;exact⟨.inl (o6 i g),by omega⟩
  ·rw[if_neg hl] at g;split at g<;>omega
theorem GBa.lundo (h:GBa N w b F R a s) (again:Bool):Calls Tryz.prog 84 #[pAt a.l,.bool again] w (LUndo N w b F R a s (chainN again s.L.close.ch s.L.close.G.length)):=by
 obtain⟨col,o,k⟩:=h
 refine(tundo k.log o.tb (o.cN (by omega) (by omega)) o.sz again).mono ?_
 rintro r w' ⟨ho,n,hn1,hn2,hh⟩
 refine⟨n,hn1,hn2,ho.mono (fun i hi=>o.inF i (by omega) (by omega)),?_⟩
 rcases hh with ⟨hc,hr,hl⟩|⟨m,g,v,hc,hg,hr,hl,hv⟩
 ·exact .inl ⟨hc,hr,GBa.setLogN o k ho hn1 hl⟩
 ·exact .inr ⟨m,g,v,hc,hg,hr,GBa.setLogN o k ho hn1 hl,hv⟩
end
end Go.Proofs.YtkpoodjhjfmfjaaGreatDoor
namespace Go.Proofs.YtkpoodjhjfmfjaaGreatDoor
open Go.RowKit Go.Lib
open Ovs (PropE encP eltP)
def revsS (s:St) (L:List Chg):St:=L.foldl revertS s
theorem revsS_snoc (s:St) (L:List Chg) (c:Chg):revsS s (L++[c])=revertS (revsS s L) c:=by unfold revsS;rw[List.foldl_append];rfl
theorem take_snoc {α:Type} {L:List α} {i:Nat} {c:α} (h:L[i]?=some c):L.take (i+1)=L.take i++[c]:=by rw[List.take_add_one,h];rfl
theorem Pos.stand {s:St} {B:Nat} (h:Pos s B) (x:Nat):Pos (standS s x) B:=
 ⟨by show 1<=min (max x s.lo) s.hi;have:=h.lo1;have:=h.hi1;omega,h.lo1,h.hi1,by show min (max x s.lo) s.hi<=B;have:=h.hi;omega,h.lo,h.hi,h.mark,h.X,h.X1,h.tick⟩
theorem Pos.set {s:St} {B:Nat} (h:Pos s B) (f t nm:Int) (want:Option (Int × Int)):Pos (setS s f t nm want) (B+1):=by
 unfold setS
 split
 ·exact h.mono (by omega)
 ·have hf:=foldl_same (f:=noteV nm want) (fun s x=>noteV_same nm want s x) (segsP s.P nm t (t - f).toNat f) s
  have h1:=h.same hf
  dsimp only
  split
  ·exact h1.mono (by omega)
  ·exact⟨h1.pt1,h1.lo1,h1.hi1,Nat.le_succ_of_le h1.pt,Nat.le_succ_of_le h1.lo,Nat.le_succ_of_le h1.hi,Nat.le_succ_of_le h1.mark,fun x hx=>Exc.le_mono (h1.X x hx) (by omega),h1.X1,Nat.succ_le_succ h1.tick⟩
theorem Pos.revert {s:St} {B:Nat} (h:Pos s B) {c:Chg} (hc:ChgOk c):Pos (revertS s c) (B+priceC c):=by
 have hp:=priceC_pos c
 unfold revertS
 split
 ·rename_i hk
  have h1:=hc.a (by omega)
  have h2:=hc.b (.inl hk)
  exact((h.take c.a.toNat c.b.toNat (by omega) (by omega)).stand _).mono (by omega)
 split
 ·rename_i hk
  refine((h.put c.a.toNat c.tx false).stand _).mono ?_
  unfold priceC;rw[if_pos hk];omega
 split
 ·have h1:Pos { s with M:=(Mks.moveR s.M s.mn c.id c.a).m,mn:=(Mks.moveR s.M s.mn c.id c.a).n } B:=h.of rfl rfl rfl rfl rfl rfl
  exact h1.mono (by omega)
 split
 ·exact(h.stand _).mono (by omega)
 split
 ·exact(h.set _ _ _ _).mono (by omega)
 ·have h1:Pos { s with clean:=s.tick } B:=h.of rfl rfl rfl rfl rfl rfl
  exact h1.mono (by omega)
theorem Pos.revs:∀ {L:List Chg} {s:St} {B:Nat},Pos s B->(∀ c ∈ L,ChgOk c)->Pos (revsS s L) (B+costL L)
 | [],s,B,h,_=>h.mono (by omega)
 | c :: L,s,B,h,hc=>by
   have h1:Pos (revsS (revertS s c) L) (B+priceC c+costL L):=Pos.revs (h.revert (hc c (by simp))) (fun x hx=>hc x (List.mem_cons_of_mem _ hx))
   rw[costL_cons]
   exact Pos.mono (show Pos (revsS s (c :: L)) _ from h1) (by omega)
theorem ToA.fin {w w4 w':World} {N b:Nat} {F R F4 R4:Nat->Prop} {a:Adr} {s:St} (t:ToA N w4 b F4 R4 a s w') (hF:∀ k,F4 k->F k/\k<w.heap.size\/w.heap.size<=k) (hR:∀ k,R4 k->R k/\k<w.heap.size\/w.heap.size<=k) (hN:∀ k,F k->N<=k) (hs:N<=w.heap.size) (ho:Only F w w4):ToA N w b F R a s w':=
 ⟨t.1.mono (fun k hk=>hk.elim (fun q=>(hF k q).imp (fun e=>e.1) id) (fun q=>.inr (Nat.le_trans ho.size q))) (fun k hk=>hk.elim (fun q=>(hR k q).imp (fun e=>e.1) id) (fun q=>.inr (Nat.le_trans ho.size q))) (fun k hk=>hk.elim (hN k) (fun e=>Nat.le_trans hs e)),ho.then t.2 (fun k hk hlt=>(hF k hk).elim (fun e=>e.1) (fun e=>absurd hlt (by omega)))⟩
theorem costL_rev (L:List Chg):costL L.reverse=costL L:=by unfold costL;rw[List.map_reverse,List.sum_reverse]
def undoC (s:St) (again:Bool):Int:=chainN again s.L.close.ch s.L.close.G.length
def undoE (s:St) (again:Bool):Int:=andE (errB 9 s.logs) (andE (openE s) (if undoC s again=0 then 13 else 0))
def undoG (s:St) (again:Bool):List Chg:=(s.L.close.G[(undoC s again).toNat - 1]?.getD []).reverse
def shutS (s:St):St:={ s with L:=s.L.close,empty:=true }
def undoS (s:St) (again:Bool):St:=
 if andE (errB 9 s.logs) (openE s)≠0 then s else
 if undoC s again=0 then { s with L:=⟨s.L.close.G,[],0⟩,empty:=true } else
 shutS (revsS { s with L:=⟨s.L.close.G,[],undoC s again - 1⟩,empty:=true } (undoG s again))
section
variable {w w' w1 : World} {N b n : Nat} {F R : Nat → Prop} {a : Adr} {s s' : St} {c : Chg}
set_option maxHeartbeats 1000000 in
theorem GBa.undo1 {k0:Nat} (h:GBa N w b F R a s) (h0:w.cell? ⟨k0,0,none⟩=some (pAt b)):Calls Tryz.prog 82 #[pAt k0] w fun r w'=>r=.returned (.bool s.logs)/\Below w.heap.size w w':=by
 have c14:w.cell? ⟨b,14,none⟩=some (.bool s.logs):=h.buf.cell (j:=14) rfl
 clear h
 go_enter Tryz.func82,Tryz.ntmps82
 go_wp2_with fail
 go_ret
 exact⟨rfl,Below.refl _ _⟩
def LgLe (L:Lg) (B:Nat):Prop:=(∀ g ∈ L.G,∀ c ∈ g,ChgLe c B)/\∀ c ∈ L.O,ChgLe c B
theorem dropG_sub (G:List (List Chg)) (ch:Int):∀ g ∈ (dropG G ch).1,g ∈ G:=by
 induction G generalizing ch with
 | nil=>intro g hg;simp [dropG] at hg
 | cons x r ih=>
   cases r with
   | nil=>intro g hg;simpa [dropG] using hg
   | cons y r=>
     intro g hg
     rw[dropG] at hg
     split at hg
     ·exact List.mem_cons_of_mem _ (ih _ g hg)
     ·exact hg
theorem LgLe.close {L:Lg} {B:Nat} (h:LgLe L B):LgLe L.close B:=by
 refine⟨fun g hg=>?_,fun c hc=>by simp[Lg.close] at hc⟩
 have:=dropG_sub _ _ g hg
 unfold logShut at this
 split at this
 ·exact h.1 g this
 ·rcases List.mem_append.1 this with q|q
  ·exact h.1 g q
  ·obtain rfl:g=L.O:=by simpa using q
   exact h.2
theorem GBa.lok (h:GBa N w b F R a s):LgOk s.L:=by obtain⟨col,o,k⟩:=h;exact k.log.1
set_option maxRecDepth 100000 in
set_option maxHeartbeats 4000000 in
theorem Undo_ok (h:GBa N w b F R a s) (hB:Pos s 900000000) (hL:LgLe s.L 900000000) (again:Bool) :
  Calls Tryz.prog 22 #[pAt b,.bool again] w fun r w'=>r=.returned (.int .i64 (undoE s again))/\To N w b F R (undoS s again) w':=by
 have hbb:=h.bound
 have hcl:=hL.close
 have hok:=h.lok.close
 obtain⟨E1,hE1⟩:∃ z:Int,z=errB 9 s.logs:=⟨_,rfl⟩
 obtain⟨E2,hE2⟩:∃ z:Int,z=openE s:=⟨_,rfl⟩
 obtain⟨E,hE⟩:∃ z:Int,z=andE E1 E2:=⟨_,rfl⟩
 obtain⟨E3,hE3⟩:∃ z:Int,z=undoE s again:=⟨_,rfl⟩
 obtain⟨T2,hT2⟩:∃ z:St,z=undoS s again:=⟨_,rfl⟩
 obtain⟨C,hC⟩:∃ z:Int,z=undoC s again:=⟨_,rfl⟩
 have HU:=qH (⟨hE3,hT2,hC⟩:_/\_/\_)
 have hPE:E=(if E1=0 then E2 else E1):=by rw[hE];simp[andE]
 have HE:=qH (⟨hE1,hE2,hE⟩:_/\_/\_)
 rw[<-hE3,<-hT2]
 have H0:=qH h
 have HH:=qH (⟨hB,hcl,hok⟩:_/\_/\_)
 have HN:=qH (⟨h.hN,h.sz⟩:_/\_)
 have hlu:=fun(w2:World) (hb2:Below w.heap.size w w2)=>(hbb.up hb2).lundo again
 have HLU:=qH hlu
 have hb:=below1 w (.cells #[pAt b] 22)
 have hk:=Blk.made w 22 #[pAt b]
 have H1:=qH (h.up hb)
 have HK:=qH hk
 have HD:=qH hb
 have hz:(w.alloc (.cells #[pAt b] 22)).heap.size=w.heap.size+1:=by simp
 have HZ:=qH hz
 have HPE:=qH hPE
 clear h hB hL hcl hok hbb hE1 hE2 hE hE3 hT2 hC hPE hb hk hz hlu
 go_enter Tryz.func22,Tryz.ntmps22
 go_wp2_with fail
 generalize w.alloc (.cells #[pAt b] 22)=W at *
 have X0:∀ X:UpW W.heap.size W,X.w.cell? ⟨w.heap.size,0,none⟩=some (pAt b):=fun X=>(HK.out.up X.up).cell (j:=0) rfl
 refine wp_region_mixF W.heap.size 9 [([0,1,2,4,5],3),([],6),([],7)] [8] (by kernel_rfl) (fun c d v a w h=>by cases d<;>exact h) (by kernel_rfl) ?_
 simp only[wpMix,pk_nil,pk_cons,pushAt_zero,pushAt_succ,List.drop_succ_cons,List.drop_zero]
 repeat (go_big_quiet_step (fail))
 refine wpQuiet_nil ?_
 clear X0
 go_wp2_with fail
 refine(unless_ok 9 82 #[] #[pAt w.heap.size] W.drew).mono ?_
 rintro r w1 ⟨rfl,hb1,he,hf⟩
 have hb1':Below W.heap.size W w1:=((Below.refl _ W).drew).trans hb1
 have C1:=qH (ChkAt.unless (P:=True) (p:=s.logs) (enters_mk Tryz.func82 (by kernel_rfl) rfl) he hf (fun _ w2 hb2=>((H1.out.up hb1').up hb2).undo1 (((HK.out.up hb1').up hb2).cell (j:=0) rfl)))
 have M1:=qH ((H1.out.up hb1').made_)
 have O1:=qH ((H1.out.up hb1').open_)
 have B1:=qH hb1'
 clear hb1 he hf
 go_wp2_with fail
 refine thenQ_normal ⟨⟨⟨_,B1.out⟩,rfl⟩,?_⟩
 refine wpQuiet_nil ?_
 go_wp2_with fail
 have hb2:=below1 w1 (.cells #[(madeC b).val,(unlC W.heap.size (W.heap.size+1) (errB 9 s.logs)).val,(openC b (openE s)).val] 33)
 have B2:=qH (B1.out.trans (hb2.mono B1.out.size))
 refine thenQ_normal ⟨⟨⟨_,B2.out⟩,rfl⟩,?_⟩
 refine wpQuiet_nil ?_
 have hR3:=RSl.arr (enc:=encK) (zs:=[madeC b,unlC W.heap.size (W.heap.size+1) (errB 9 s.logs),openC b (openE s)]) (MapKept.heap_alloc w1 (.cells #[(madeC b).val,(unlC W.heap.size (W.heap.size+1) (errB 9 s.logs)).val,(openC b (openE s)).val] 33)).1 rfl
 have HF:=first_any hR3 3 (by simp) (by
  intro c hc
  simp only[List.mem_cons,List.not_mem_nil,or_false] at hc
  rcases hc with rfl|rfl|rfl
  ·exact M1.out.en
  ·exact C1.out.en
  ·exact O1.out.en) (by
  intro i c w4 hi hz hb
  rcases i with _|_|_|i
  ·cases hi;exact M1.out.run trivial w4 (up2 hb2 hb)
  ·cases hi;exact C1.out.run trivial w4 (up2 hb2 hb)
  ·cases hi;exact O1.out.run trivial w4 (up2 hb2 hb)
  ·simp at hi)
 have hfe:firstE [madeC b,unlC W.heap.size (W.heap.size+1) (errB 9 s.logs),openC b (openE s)]=E:=by rw[firstE3,HE.out.2.2,HE.out.1,HE.out.2.1];rfl
 rw[hfe] at HF
 have HF:=qH HF
 clear hR3 hb2 hb1' hfe
 go_wp2_with fail
 refine HF.out.mono ?_
 rintro e w3 ⟨rfl,hb3⟩
 have B3:=qH (B2.out.trans (hb3.mono B2.out.size))
 clear hb3 HF M1 C1 O1 B1 B2
 by_cases hE0:E=0
 case neg=>
  have e1:((E:Int) == 0)=false:=by simpa using hE0
  have e2:(E=0)=False:=eq_false hE0
  have HEN:=qH hE0
  clear hE0
  go_wp2_with fail
  refine thenQ_normal ⟨⟨⟨_,B3.out⟩,rfl⟩,?_⟩
  repeat (go_big_quiet_step (fail))
  refine wpQuiet_nil ?_
  go_wp2_with fail
  go_ret
  have hE3:=HU.out.1
  have hT2:=HU.out.2.1
  have hne:andE (errB 9 s.logs) (openE s)≠0:=by have:=HEN.out;rw[HE.out.2.2,HE.out.1,HE.out.2.1] at this;exact this
  refine⟨?_,?_⟩
  ·rw[hE3,HE.out.2.2,HE.out.1,HE.out.2.1];unfold undoE andE at *;split<;>simp_all
  ·rw[hT2,undoS,if_pos hne];exact(ToA.of_below H0.out (up2 HD.out (show Below W.heap.size W w3 from B3.out))).to
 case pos=>
 have hE00:=HE.out.2.2
 rw[hE0] at hE00
 have HE0:=qH (show andE (errB 9 s.logs) (openE s)=0 by rw[<-HE.out.1,<-HE.out.2.1];exact hE00.symm)
 clear hE00
 rw[hE0]
 clear hE0
 go_wp2_with fail
 refine thenQ_normal ⟨⟨⟨_,B3.out⟩,rfl⟩,?_⟩
 repeat (go_big_quiet_step (fail))
 refine wpQuiet_nil ?_
 have P3:=qH (H1.out.up B3.out)
 have K3:=qH (HK.out.up B3.out)
 have q13:w3.cell? ⟨b,13,none⟩=some (pAt a.l):=P3.out.cl
 have k0:=K3.out.cell (j:=0) rfl
 go_wp2_with fail
 have B4:Below w.heap.size w w3:=up2 HD.out B3.out
 have hBs:=B4.size
 have hz3:=B3.out.size
 have hzz:=HZ.out
 refine(HLU.out w3 B4).mono ?_
 rintro r w4 ⟨n,hn1,hn2,ho4,⟨hc,rfl,hp4⟩|⟨m,g,v,hc,hg,rfl,hp4,hv⟩⟩
 ·have hk4:=K3.out.only ho4 (fun e=>by have:=e.2;omega)
  have q15:=hp4.buf.cell (j:=15) rfl
  have f15:=hp4.buf.fz 15
  have k4:=hk4.cell (j:=0) rfl
  have P4:=qH hp4
  have O4:=qH ((Only.of_below B4:Only F w w3).trans (ho4.mono (fun k hk=>hk.1)))
  have HCC:=qH (HU.out.2.2.trans hc)
  clear hp4 ho4 hk4 k0 q13 hc
  go_wp2_with fail
  go_ret
  have t5:=P4.out.store { s with L:=⟨s.L.close.G,[],0⟩,empty:=true } (j:=15) (by omega) (.bool true) ⟨rfl,rfl,rfl,rfl,rfl,rfl,rfl,rfl,rfl,rfl⟩ rfl
  have hE3:=HU.out.1
  have hT2:=HU.out.2.1
  have hC0:undoC s again=0:=HU.out.2.2.symm.trans HCC.out
  refine⟨?_,?_⟩
  ·rw[hE3,undoE,if_pos hC0]
   have:=HE0.out
   obtain⟨h1,h2⟩:=andE0 this
   rw[h1,h2];rfl
  ·rw[hT2,undoS,if_neg (by rw[HE0.out];simp),if_pos hC0]
   exact(t5.fin (fun k hk=>hk.1.imp id (fun e=>by omega)) (fun k hk=>hk.1.imp id (fun e=>by omega)) HN.out.1 HN.out.2 O4.out).to
 ·obtain⟨L,hL⟩:∃ L,L=g.reverse:=⟨_,rfl⟩
  rw[<-hL] at hv
  have hgm:=List.mem_of_getElem? hg
  have hcg:=costL_mem hgm
  have hcL:costL L<=1048576:=by rw[hL,costL_rev];have:=HH.out.2.2.cg;omega
  have hLl:L.length<=1048576:=Nat.le_trans (costL_len L) hcL
  have hLc:∀ c ∈ L,ChgLe c 900000000:=fun c hc'=>HH.out.2.1.1 g hgm c (by rw[hL] at hc';exact List.mem_reverse.1 hc')
  have hvb:∀ k,v.ownBlock=some k->n<=k/\k<w4.heap.size:=fun k hk=>⟨hv.base hk,hv.lt hk⟩
  have hk4:=K3.out.only ho4 (fun e=>by have:=e.2;omega)
  have q15:=hp4.buf.cell (j:=15) rfl
  have f15:=hp4.buf.fz 15
  have k4:=hk4.cell (j:=0) rfl
  obtain⟨A,cap,rfl,hcp,hcm,_⟩:=hv.shape eltCg
  obtain⟨T0,hT0⟩:∃ T0:St,T0={ s with L:=⟨s.L.close.G,[],m⟩,empty:=true }:=⟨_,rfl⟩
  have t5:=hp4.store { s with L:=⟨s.L.close.G,[],m⟩,empty:=true } (j:=15) (by omega) (.bool true) ⟨rfl,rfl,rfl,rfl,rfl,rfl,rfl,rfl,rfl,rfl⟩ rfl
  rw[<-hT0] at t5
  obtain⟨F5,hF5⟩:∃ F5:Nat->Prop,F5=(fun k=>grow (fun k=>F k/\k<w.heap.size) w3.heap.size k/\k<n):=⟨_,rfl⟩
  obtain⟨R5,hR5⟩:∃ R5:Nat->Prop,R5=(fun k=>grow (fun k=>R k/\k<w.heap.size) w3.heap.size k/\k<n):=⟨_,rfl⟩
  rw[<-hF5,<-hR5] at t5 hp4
  have hF5':∀ k,F5 k->(F k/\k<w.heap.size)\/(w3.heap.size<=k/\k<n):=fun k hk=>by rw[hF5] at hk;exact hk.1.elim .inl (fun e=>.inr ⟨e,hk.2⟩)
  have hR5':∀ k,R5 k->(R k/\k<w.heap.size)\/(w3.heap.size<=k/\k<n):=fun k hk=>by rw[hR5] at hk;exact hk.1.elim .inl (fun e=>.inr ⟨e,hk.2⟩)
  have zW:(w4.setCell ⟨b,15,none⟩ (.bool true)).heap.size=w4.heap.size:=by simp
  have hp5:GBa N (w4.setCell ⟨b,15,none⟩ (.bool true)) b F5 R5 a T0:=t5.1.bound.mono (fun k hk=>hk.1.elim id (fun e=>by have:=hk.2;rw[zW] at this;omega)) (fun k hk=>hk.1.elim id (fun e=>by have:=hk.2;rw[zW] at this;omega)) hp4.hN
  have o5:Only F5 w4 (w4.setCell ⟨b,15,none⟩ (.bool true)):=t5.2
  have P5:=qH hp5
  have O5:=qH (((Only.of_below B4:Only F w w3).trans (ho4.mono (fun k hk=>hk.1))).then o5 (fun k hk hlt=>(hF5' k hk).elim (fun e=>e.1) (fun e=>by omega)))
  have K5:=qH (hk4.only o5 (fun e=>(hF5' _ e).elim (fun q=>by have:=q.2;omega) (fun q=>by omega)))
  have V5:=qH (hv.kept (fun k hk=>o5.block k (hvb k hk).2 (fun e=>(hF5' _ e).elim (fun q=>by have:=(hvb k hk).1;have:=q.2;omega) (fun q=>by have:=(hvb k hk).1;omega))))
  have HVB:=qH hvb
  have HF5:=qH (⟨hF5',hR5',zW⟩:_/\_/\_)
  have HG:=qH (⟨hc,hg,hL,hcL,hLc,hT0⟩:_/\_/\_/\_/\_/\_)
  have hP0:Pos T0 900000000:=by rw[hT0];exact HH.out.1.of rfl rfl rfl rfl rfl rfl
  have HP0:=qH hP0
  clear hp4 ho4 hk4 k0 q13 hc hg hL hvb hv t5 hp5 o5 P3 K3 hF5 hR5 hF5' hR5' zW hcL hLc hT0 hP0 hgm hcg
  go_wp2_with fail
  clear q15 f15 k4
  have zW:=HF5.out.2.2
  generalize w4.setCell ⟨b,15,none⟩ (.bool true)=W5 at *
  go_loopw [38] (fun va wr=>∃ i:Nat,i<=L.length/\va=.int .i64 i/\To N W5 b F5 R5 (revsS T0 (L.take i)) wr) (fun va _=>int2 va (.int .i64 L.length))
  case atStart=>exact⟨0,Nat.zero_le _,rfl,(ToA.refl P5.out).to⟩
  case round=>
   obtain⟨i,hi,rfl,ar,htr⟩:=hrel
   have zr:=htr.2.size
   have hkr:=K5.out.only htr.2 (fun e=>(HF5.out.1 _ e).elim (fun q=>by have:=q.2;omega) (fun q=>by omega))
   have hvr:=V5.out.kept (fun k hk=>htr.2.block k (by have:=(HVB.out k hk).2;omega) (fun e=>(HF5.out.1 _ e).elim (fun q=>by have:=(HVB.out k hk).1;have:=q.2;omega) (fun q=>by have:=(HVB.out k hk).1;omega)))
   have hlw:w.heap.size<wr.heap.size:=by omega
   have hne:¬ wr.heap.size=w.heap.size:=by omega
   have kr:wr.cell? ⟨w.heap.size,0,none⟩=some (pAt b):=hkr.cell (j:=0) rfl
   have PR:=qH htr
   by_cases hlt:i<L.length
   ·have d1:decide ((i:Int)<L.length)=true:=decide_eq_true (by omega)
    have d2:((i:Int)<L.length)=True:=eq_true (by omega)
    have s1:IntKind.i64.wrap ((i:Int)+1)=((i+1:Nat):Int):=by rw[IntWalk.i64_in _ (by omega)];omega
    obtain⟨c,hx⟩:∃ c,L[i]?=some c:=⟨_,List.getElem?_eq_getElem hlt⟩
    have hcl:=HG.out.2.2.2.2.1 c (List.mem_of_getElem? hx)
    have hpr:Pos (revsS T0 (L.take i)) 1000000000:=(HP0.out.revs (L:=L.take i) (fun c hc'=>(HG.out.2.2.2.2.1 c (List.mem_of_mem_take hc')).ok)).mono (by have:=costL_take_le L i;have:=HG.out.2.2.2.1;omega)
    obtain⟨gb,cap',e,hnc,hcm',hBg,hgl,hfz,hcell⟩:=hvr.lies eltCg (by omega)
    cases e
    have hcx:=fun j u=>hcell i c j u hx
    have HX:=qH hx
    have hb6:=below1 wr (.cells (chgA c) 121)
    have HRV:=qH (revert_ok (htr.gb.up hb6) hpr (hcl.mono (by omega)))
    have B6:=qH hb6
    obtain⟨S6,hS6⟩:∃ z,z=revertS (revsS T0 (L.take i)) c:=⟨_,rfl⟩
    rw[<-hS6] at HRV
    have HS6:=qH hS6
    clear hcl hpr hb6 hS6
    obtain⟨xk,xa,xb,xid,xnm,xtx,xvk,xvn,xhd⟩:=c
    have x0:=hcx 0 _ rfl
    have x1:=hcx 1 _ rfl
    have x2:=hcx 2 _ rfl
    have x3:=hcx 3 _ rfl
    have x4:=hcx 4 _ rfl
    have x5:=hcx 5 _ rfl
    have x6:=hcx 6 _ rfl
    have x7:=hcx 7 _ rfl
    have x8:=hcx 8 _ rfl
    rw[Nat.add_zero] at x0
    clear hcell hcx hfz hx hvr hkr htr
    go_wp2_with fail
    refine HRV.out.mono ?_
    rintro r w7 ⟨rfl,ht7⟩
    have H7:=qH (PR.out.to.trans (To.before ht7 PR.out.gb B6.out))
    clear ht7 HRV
    go_wp2_with fail
    go_roundw
    case rel=>
     refine⟨i+1,by omega,by first|rfl|go_num,?_⟩
     rw[take_snoc HX.out,revsS_snoc,<-HS6.out]
     exact H7.out
    case measure=>simp[int2];omega
   ·have d1:decide ((i:Int)<L.length)=false:=decide_eq_false (by omega)
    have d2:((i:Int)<L.length)=False:=eq_false (by omega)
    obtain rfl:i=L.length:=by omega
    rw[List.take_length] at htr PR
    have HB2:=qH (PR.out.gb.lbound)
    have q13:wr.cell? ⟨b,13,none⟩=some (pAt ar.l):=PR.out.gb.cl
    clear hvr hkr htr
    go_wp2_with fail
    refine HB2.out.mono ?_
    rintro r w7 ⟨rfl,ht7⟩
    have H7:=qH (PR.out.trans ht7)
    have k7:w7.cell? ⟨w.heap.size,0,none⟩=some (pAt b):=(K5.out.only H7.out.2 (fun e=>(HF5.out.1 _ e).elim (fun q=>by have:=q.2;omega) (fun q=>by omega))).cell (j:=0) rfl
    have q15:=H7.out.gb.buf.cell (j:=15) rfl
    have f15:=H7.out.gb.buf.fz 15
    clear ht7 q13 kr HB2
    go_wp2_with fail
    go_ret
    have t8:=H7.out.trans (H7.out.gb.store (shutS (revsS T0 L)) (j:=15) (by omega) (.bool true) ⟨rfl,rfl,rfl,rfl,rfl,rfl,rfl,rfl,rfl,rfl⟩ rfl)
    have hE3:=HU.out.1
    have hT2:=HU.out.2.1
    have hC0:undoC s again=((m+1:Nat):Int):=HG.out.1
    have hG0:undoG s again=L:=by
     unfold undoG
     rw[hC0,show((m+1:Nat):Int).toNat - 1=m by omega,HG.out.2.1,HG.out.2.2.1];rfl
    refine⟨?_,?_⟩
    ·rw[hE3,undoE,if_neg (by rw[hC0];omega)]
     obtain⟨h1,h2⟩:=andE0 HE0.out
     rw[h1,h2];rfl
    ·rw[hT2,undoS,if_neg (by rw[HE0.out];simp),if_neg (by rw[hC0];omega),hG0,hC0,show((m+1:Nat):Int) - 1=(m:Int) by omega,<-HG.out.2.2.2.2.2]
     exact(t8.fin (fun k hk=>(HF5.out.1 k hk).imp id (fun e=>by omega)) (fun k hk=>(HF5.out.2.1 k hk).imp id (fun e=>by omega)) HN.out.1 HN.out.2 O5.out).to
end
end Go.Proofs.YtkpoodjhjfmfjaaGreatDoor
namespace Go.Proofs.YtkpoodjhjfmfjaaGreatDoor
open Go.RowKit Go.Lib
open Ovs (PropE encP eltP)
section
variable {w w' : World} {t g b l : Nat}
theorem gapX0 (h:Blk w t 184 (txtC g 0 0 0 0 (.slice none 0 0))) (hg:Blk w g 21 (rowR [])) (hn:t≠g):GapX w t g (.slice none 0 0) [] 0 0 []:=
 ⟨⟨[],h,hg,hn,by simp,by simp,by simp⟩,ROwn.nil _ _,fun k hk=>(by simp[Value.ownBlock] at hk),rfl,fun c hc=>(by cases hc),by simp⟩
set_option maxRecDepth 100000 in
set_option maxHeartbeats 2000000 in
theorem gapNewX {N:Nat} (hT:Tabs N w) (hN:N<=w.heap.size):Calls Tryz.prog 134 #[.string ⟨#[]⟩] w fun e w'=>∃ g t,e=.returned (.tuple #[pAt t,.int .i64 0])/\Below w.heap.size w w'/\w.heap.size<=g/\g<t/\GapX w' t g (.slice none 0 0) [] 0 0 []:=by
 have hV:=valid_any ⟨#[]⟩ w (by decide) hT
 rw[vldE] at hV
 have HV:=qH hV
 have HT:=qH hT
 clear hT hV
 go_enter Tryz.func134,Tryz.ntmps134
 go_wp2_with fail
 refine HV.out.mono ?_
 rintro e w1 ⟨rfl,hb1⟩
 have hw1:=hb1.size
 have hsz:(w1.alloc (.cells #[] 21)).heap.size=w1.heap.size+1:=by simp
 have hk:Blk ((w1.alloc (.cells #[] 21)).alloc (.cells #[.slice (some ⟨w1.heap.size,0,none⟩) 0 0,.int .i64 0,.int .i64 0,.slice none 0 0] 184)) (w1.heap.size+1) 184 (txtC w1.heap.size 0 0 0 0 (.slice none 0 0)):=by
  have:=Blk.made (w1.alloc (.cells #[] 21)) 184 (txtC w1.heap.size 0 0 0 0 (.slice none 0 0))
  rwa [hsz] at this
 have hb2:Below w.heap.size w ((w1.alloc (.cells #[] 21)).alloc (.cells #[.slice (some ⟨w1.heap.size,0,none⟩) 0 0,.int .i64 0,.int .i64 0,.slice none 0 0] 184)):=up2 hb1 (below2 w1 _ _)
 have hkg:Blk (w1.alloc (.cells #[] 21)) w1.heap.size 21 (rowR []):=by
  have:=Blk.made w1 21 (rowR [])
  simpa [rowR] using this
 have hkg2:=Blk.up hkg (below1 _ (.cells #[.slice (some ⟨w1.heap.size,0,none⟩) 0 0,.int .i64 0,.int .i64 0,.slice none 0 0] 184))
 have HKG:=qH hkg2
 clear hkg hkg2
 have HK:=qH hk
 have HB:=qH hb2
 clear hk hb1 hb2 HV
 go_wp2_with fail
 refine(ginsertE (HT.out.up HB.out) HK.out (by omega)).mono ?_
 rintro e w3 ⟨rfl,ho3,hk3⟩
 go_wp2_with fail
 go_ret2
 exact⟨_,_,rfl,(HB.out).trans (ho3.below HB.out.size (fun k hk=>by omega)),hw1,Nat.lt_succ_self _,gapX0 hk3 (HKG.out.only ho3 (by omega)) (by omega)⟩
def newSt (pr ev lock:Int):St:=⟨1,1,1,0,false,false,false,0,0,true,true,lock,0,pr,ev,[],[],0,[],[],0,⟨[],[],-1⟩,[]⟩
theorem logT0 (h:Blk w l 176 (logC (.slice none 0 0) (.slice none 0 0) (-1) 0 0)):LogT w l (fun k=>k=l) ⟨[],[],-1⟩:=
 ⟨⟨by simp,by simp,by simp[costL],by simp[costG],by simp,by simp⟩,.slice none 0 0,.slice none 0 0,[],⟨h,OOwn.nil _,rfl,fun i x g h1 h2=>by simp at h1,ROwn.nil _ _,fun _=>rfl,fun k hk=>by simp[Value.ownBlock] at hk,fun k hk=>by simp[Value.ownBlock] at hk,fun x hx=>by simp at hx,List.Pairwise.nil⟩,fun k hk=>by
   rcases hk with e|e|e|⟨x,hx,_⟩
   ·exact e
   ·simp[Value.ownBlock] at e
   ·simp[Value.ownBlock] at e
   ·cases hx⟩
theorem MkT.up {m:Nat} {F:Nat->Prop} {M:List (Int × Mks.Mk)} {n:Int} (h:MkT w m F M n) (hb:Below w.heap.size w w'):MkT w' m F M n:=h.only (Only.of_below hb:Only (fun _=>False) w w') (fun _ _ _=>id) (fun _ hk _=>hk)
theorem PrT.up {p:Nat} {F R:Nat->Prop} {P:List Pc} (h:PrT w p F R P) (hb:Below w.heap.size w w'):PrT w' p F R P:=h.only (Only.of_below hb:Only (fun _=>False) w w') (fun _ _ _=>id) (fun _ hk _=>hk) (fun _ hk _=>hk)
theorem OvT.up {o:Nat} {F:Nat->Prop} {pr ev nx:Int} {D:List Ovs.OverD} (h:OvT w o F pr ev D nx) (hb:Below w.heap.size w w'):OvT w' o F pr ev D nx:=h.only (Only.of_below hb:Only (fun _=>False) w w') (fun _ _ _=>id) (fun _ hk _=>hk)
theorem MkT.sub {m:Nat} {F F':Nat->Prop} {M:List (Int × Mks.Mk)} {n:Int} (h:MkT w m F M n) (hF:∀ k,F k->k<w.heap.size->F' k):MkT w m F' M n:=h.only (Only.refl (fun _=>False) w) (fun _ _ _=>id) hF
theorem PrT.sub {p:Nat} {F F' R R':Nat->Prop} {P:List Pc} (h:PrT w p F R P) (hF:∀ k,F k->k<w.heap.size->F' k) (hR:∀ k,R k->k<w.heap.size->R' k):PrT w p F' R' P:=h.only (Only.refl (fun _=>False) w) (fun _ _ _=>id) hF hR
theorem OvT.sub {o:Nat} {F F':Nat->Prop} {pr ev nx:Int} {D:List Ovs.OverD} (h:OvT w o F pr ev D nx) (hF:∀ k,F k->k<w.heap.size->F' k):OvT w o F' pr ev D nx:=h.only (Only.refl (fun _=>False) w) (fun _ _ _=>id) hF
set_option maxRecDepth 100000 in
set_option maxHeartbeats 2000000 in
theorem New_ok {N:Nat} (hT:Tabs N w) (hR:Rules N w) (hN:N<=w.heap.size) (pr ev lock:Int):Calls Tryz.prog 68 #[.int .i64 pr,.int .i64 ev,.int .i64 lock] w fun e w'=>
  ∃ b a,e=.returned (pAt b)/\Below w.heap.size w w'/\GBa N w' b (fun k=>w.heap.size<=k/\k<w'.heap.size) (fun _=>False) a (newSt pr ev lock):=by
 have HT:=qH hT
 have HR:=qH hR
 clear hT hR
 go_enter Tryz.func68,Tryz.ntmps68
 go_wp2_with fail
 refine(gapNewX HT.out hN).mono ?_
 rintro e w1 ⟨g,t,rfl,hb1,hg1,hg2,ht1⟩
 have htl:=ht1.gw.ltT
 have T1:=qH ht1
 have B1:=qH hb1
 clear hb1 ht1
 go_wp2_with fail
 refine(undo_new w1).mono ?_
 rintro e w2 ⟨rfl,hb2,hs2,hl2⟩
 replace hs2:=Nat.le_of_eq hs2.symm
 have T2:=qH (T1.out.up hb2)
 have B2:=qH (up2 B1.out hb2)
 have L2:=qH (logT0 hl2)
 have hw1:=B1.out.size
 clear hb2 hl2 T1 B1
 generalize w1.heap.size=l at *
 go_wp2_with fail
 refine(Mks.new_any w2).mono ?_
 rintro e w3 ⟨rfl,hm3,hb3,hs3⟩
 replace hs3:=Nat.le_of_eq hs3.symm
 have T3:=qH (T2.out.up hb3)
 have B3:=qH (up2 B2.out hb3)
 have L3:=qH (L2.out.up hb3)
 have M3:Hid (MkT w3 (w2.heap.size+1) (fun k=>k=w2.heap.size\/k=w2.heap.size+1) [] 0):=qH ⟨_,hm3,.inr rfl,.inl rfl,⟨List.Pairwise.nil,by simp,by simp⟩⟩
 clear hb3 hm3 T2 B2 L2
 generalize w2.heap.size=mm at *
 go_wp2_with fail
 refine(pnew w3).mono ?_
 rintro e w4 ⟨rfl,hp4,hb4⟩
 have hs4:=hp4.blk.lt
 have T4:=qH (T3.out.up hb4)
 have B4:=qH (up2 B3.out hb4)
 have L4:=qH (L3.out.up hb4)
 have M4:=qH (M3.out.up hb4)
 have P4:Hid (PrT w4 w3.heap.size (fun k=>k=w3.heap.size) (fun _=>False) []):=qH ⟨_,_,_,hp4,rfl,rfl,fun k hk=>by simp[Value.ownBlock] at hk,fun g hg=>hg.elim,fun x hx=>by cases hx⟩
 clear hb4 hp4 T3 B3 L3 M3
 generalize w3.heap.size=p at *
 go_wp2_with fail
 refine(Ovs.s_new pr ev w4).mono ?_
 rintro e w5 ⟨o,rfl,ho5,hb5⟩
 have hs5:=ho5.blt
 have hs50:w4.heap.size<=o:=by obtain⟨v,L,h1,h2,h3⟩:=ho5;exact h3 o (by simp[Ovs.footS])
 have T5:=qH (T4.out.up hb5)
 have B5:=qH (up2 B4.out hb5)
 have L5:=qH (L4.out.up hb5)
 have M5:=qH (M4.out.up hb5)
 have P5:=qH (P4.out.up hb5)
 have O5:Hid (OvT w5 o (fun k=>w4.heap.size<=k/\k<w5.heap.size) pr ev [] 0):=qH (OvT.sub ⟨ho5,Ovs.WfD.nil,hs50⟩ (fun k hk hl=>⟨hk,hl⟩))
 clear hb5 ho5 T4 B4 L4 P4 M4
 generalize w4.heap.size=q4 at *
 go_wp2_with fail
 go_ret
 have hb6:=below1 w5 (.cells (bufC ((newSt pr ev lock).bs ⟨t,mm+1,p,o,l,.slice none 0 0⟩)) 112)
 have hk6:=Blk.made w5 112 (bufC ((newSt pr ev lock).bs ⟨t,mm+1,p,o,l,.slice none 0 0⟩))
 have hz:(w5.alloc (.cells (bufC ((newSt pr ev lock).bs ⟨t,mm+1,p,o,l,.slice none 0 0⟩)) 112)).heap.size=w5.heap.size+1:=by simp
 have hbz:=up2 B5.out hb6
 suffices key:GBa N (w5.alloc (.cells (bufC ((newSt pr ev lock).bs ⟨t,mm+1,p,o,l,.slice none 0 0⟩)) 112)) w5.heap.size (fun k=>w.heap.size<=k/\k<w5.heap.size+1) (fun _=>False) ⟨t,mm+1,p,o,l,.slice none 0 0⟩ (newSt pr ev lock) from
  ⟨_,_,rfl,hbz,key.mono (fun k hk=>⟨hk.1,Nat.lt_of_lt_of_eq hk.2 hz.symm⟩) (fun k hk=>hk) (fun k hk=>by omega)⟩
 refine⟨fun k=>if k<w.heap.size then 0 else if k<l then 2 else if k<mm then 6 else if k<p then 3 else if k<q4 then 4 else if k<w5.heap.size then 5 else if k=w5.heap.size then 1 else 0,⟨HT.out.up hbz,HR.out.up hbz,fun k hk=>by omega,Nat.le_trans hN hbz.size,?_,?_⟩,⟨hk6,?_,⟨g,_,_,_,_,T5.out.up hb6,?_⟩,(M5.out.up hb6).sub ?_,(P5.out.up hb6).sub ?_ ?_,(O5.out.up hb6).sub ?_,(L5.out.up hb6).mono ?_,ROwn.nil _ _,?_,?_⟩⟩
 ·intro k h1 h2;refine⟨?_,?_⟩
  ·by_cases hk:k<w.heap.size
   ·rw[if_pos hk] at h1;omega
   ·omega
  ·by_cases hk:k<w5.heap.size+1
   ·exact hk
   ·rw[if_neg (by omega),if_neg (by omega),if_neg (by omega),if_neg (by omega),if_neg (by omega),if_neg (by omega),if_neg (by omega)] at h1;omega
 ·intro k h1;exfalso;repeat' split at h1
  all_goals omega
 ·show(if _ then _ else _)=_
  rw[if_neg (by omega),if_neg (by omega),if_neg (by omega),if_neg (by omega),if_neg (by omega),if_neg (by omega),if_pos rfl]
 ·intro k hk
  show(if _ then _ else _)=_
  rcases hk with e|e|e
  ·have e':k=t:=e
   rw[if_neg (by omega),if_pos (by omega)]
  ·have e':k=g:=e
   rw[if_neg (by omega),if_pos (by omega)]
  ·simp[Value.ownBlock] at e
 ·intro k hk _
  show(if _ then _ else _)=_
  have hk1:mm<=k/\k<p:=by rcases hk with e|e<;>omega
  rw[if_neg (by omega),if_neg (by omega),if_neg (by omega),if_pos (by omega)]
 ·intro k hk _
  show(if _ then _ else _)=_
  have hk1:k=p:=hk
  rw[if_neg (by omega),if_neg (by omega),if_neg (by omega),if_neg (by omega),if_pos (by omega)]
 ·intro k hk _;exact hk.elim
 ·intro k hk hl
  show(if _ then _ else _)=_
  rw[if_neg (by omega),if_neg (by omega),if_neg (by omega),if_neg (by omega),if_neg (by omega),if_pos (by omega)]
 ·intro k hk
  show(if _ then _ else _)=_
  have e:k=l:=hk
  rw[if_neg (by omega),if_neg (by omega),if_pos (by omega)]
 ·intro k hk;simp[Value.ownBlock] at hk
 ·simp[newSt]
end
end Go.Proofs.YtkpoodjhjfmfjaaGreatDoor
