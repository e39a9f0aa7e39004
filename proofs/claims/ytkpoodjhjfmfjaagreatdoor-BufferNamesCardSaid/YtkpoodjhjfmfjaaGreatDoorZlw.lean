/- A part. -/
import Derived.Test.YtkpoodjhjfmfjaaGreatDoorZ05
import Derived.Test.YtkpoodjhjfmfjaaGreatDoorRows
import Derived.Lib.LaidU8T
import Derived.LaidMore
import Derived.Lay
import Derived.PinnedBridge
import Derived.ChangeArms
import Derived.ChangeSame
import Derived.ProofKit
set_option linter.unusedVariables false
set_option linter.unusedSimpArgs false
namespace Go.Proofs.YtkpoodjhjfmfjaaGreatDoor
open Go.ChangeShapes Go.WideShapes Go.RowKit
section
variable {H : Type} {enc : TypeId × Value → H} {P : Program} {w : World} {base : Nat} {sp : Nat → Bool} {held : Bool}
theorem bools_of_struct {fuel:Nat} {t:TypeId} {fs:Array Field} {cs:List Value} {zs:List Bool} {p:List MemPlace} (ht:P.underlying t=some (.struct fs))
  (hf:∀(i:Nat) (f:Field),fs[i]?=some f->P.underlying f.type=some .bool/\f.offset=i/\P.cellsOf f.type=1) (hct:P.cellsOf t=fs.size)
  (h:DataW.trod enc P w base sp held fuel t cs=some (.agg (zs.map fun z=>.lit (.bool z)),p)):cs=zs.map fun z=>Value.bool z:=by
 obtain⟨xs,n,rfl,hx,hl,hxl,hall⟩:=DataW.trod_struct ht h
 have hxs:xs.map (·.1)=zs.map fun z=>(DataW.lit (.bool z):DataW H):=by
  have:=congrArg Prod.fst hx
  simpa using this.symm
 have hzl:zs.length=fs.size:=by
  have:=congrArg List.length hxs
  simp at this
  omega
 apply List.ext_getElem?
 intro i
 by_cases hi:i<fs.size
 ·obtain⟨hu,ho,hc⟩:=hf i fs[i] (by simp[hi])
  have h1:=hall i fs[i] (by simp[hi])
  obtain⟨b,hb⟩:∃ b,xs[i]?=some b:=⟨xs[i]'(by omega),List.getElem?_eq_getElem (by omega)⟩
  rw[hb,ho,hc] at h1
  obtain⟨z,hcz,rfl⟩:=DataW.trod_bool hu h1
  have h2:cs[i]?=some (.bool z):=by
   have:=congrArg (·[0]?) hcz
   simpa [List.getElem?_take,List.getElem?_drop] using this
  have h3:(xs.map (·.1))[i]?=some (DataW.lit (.bool z):DataW H):=by simp[hb]
  rw[hxs] at h3
  simp only[List.getElem?_map,Option.map_eq_some_iff,DataW.lit.injEq,Lit.bool.injEq] at h3
  obtain⟨z',hz',rfl⟩:=h3
  simp[h2,hz']
 ·rw[List.getElem?_eq_none (by omega),List.getElem?_eq_none (by simp;omega)]
end
theorem accept_eq:(Rows.laid_unicode_utf8_acceptRanges:DataW Unit)=Lib.acceptData:=by kernel_rfl
theorem rules_eq:(Rows.laid_copyist_undo_rules:DataW Unit)=.agg ((List.range 7).map fun i=>.agg ([ruleB (4*i),ruleB (4*i+1),ruleB (4*i+2),ruleB (4*i+3)].map fun z=>.lit (.bool z))):=by kernel_rfl
theorem tabs_of_laid {W:World} (h:laidMetH Tryz.prog [("unicode/utf8.acceptRanges",Rows.laid_unicode_utf8_acceptRanges),("copyist/undo.rules",Rows.laid_copyist_undo_rules),("unicode/utf8.first",Rows.laid_unicode_utf8_first)] W):Tabs W.heap.size W/\Rules W.heap.size W:=by
 rw[MakeChecks.laidMetH_plain _ _ _ (by kernel_rfl)] at h
 have r3:=Go.Lib.laidMet.reads h (n:="unicode/utf8.first") (d:=Rows.laid_unicode_utf8_first) (by simp)
 have r4:=Go.Lib.laidMet.reads h (n:="unicode/utf8.acceptRanges") (d:=Rows.laid_unicode_utf8_acceptRanges) (by simp)
 have r5:=Go.Lib.laidMet.reads h (n:="copyist/undo.rules") (d:=Rows.laid_copyist_undo_rules) (by simp)
 rw[accept_eq] at r4
 rw[rules_eq] at r5
 have e3:Rows.laid_unicode_utf8_first=Lib.firstData:=Pinned.utf8First_eq
 rw[e3] at r3
 have hU:=utf8Tabs_of_readsT (U8Types.of196 Tryz.laysValid) ⟨by kernel_rfl,by kernel_rfl,by kernel_rfl,by kernel_rfl,by kernel_rfl,by kernel_rfl,by kernel_rfl⟩ r3 r4
 refine⟨⟨hU,lt_of_cell (hU.1 0 (by omega)),lt_of_cell (hU.2 0 (by omega)).1⟩,?_⟩
 obtain⟨g,t,cs,fuel,p,hg,hty,hvar,hd⟩:=r5
 obtain rfl:2=g:=Option.some.inj ((show Tryz.prog.globalNamed "copyist/undo.rules"=some 2 by kernel_rfl).symm.trans hg)
 obtain rfl:295=t:=Option.some.inj ((show(Tryz.prog.globals[2]?).map (·.type)=some 295 by kernel_rfl).symm.trans hty)
 have key:∀ i,i<7->∀ j,j<4->W.cell? ⟨2,4*i+j,none⟩=some (.bool (ruleB (4*i+j))):=fun i hi j hj=>by
  obtain⟨fuel',d,q,hdi,he⟩:=Lib.array_elem Tryz.underlying295 hd i hi
  simp only[List.getElem?_map,List.getElem?_range hi,Option.map_some,Option.some.injEq] at hdi
  subst hdi
  rw[show Tryz.prog.cellsOf 294=4 by kernel_rfl] at he
  have hcs:=bools_of_struct Tryz.underlying294 (fun j f hj=>by
   match j,hj with
   | 0,hj=>simp at hj;subst hj;exact⟨Tryz.underlying4,rfl,by kernel_rfl⟩
   | 1,hj=>simp at hj;subst hj;exact⟨Tryz.underlying4,rfl,by kernel_rfl⟩
   | 2,hj=>simp at hj;subst hj;exact⟨Tryz.underlying4,rfl,by kernel_rfl⟩
   | 3,hj=>simp at hj;subst hj;exact⟨Tryz.underlying4,rfl,by kernel_rfl⟩
   | j+4,hj=>simp at hj) (by kernel_rfl) he
  have e0:=congrArg (·[j]?) hcs
  simp only[List.getElem?_take,List.getElem?_drop] at e0
  rw[World.var?_cell hg hvar (4*i+j),<-Array.getElem?_toList]
  rw[if_pos hj,Nat.mul_comm] at e0
  rw[e0]
  match j,hj with
  | 0,_=>rfl
  | 1,_=>rfl
  | 2,_=>rfl
  | 3,_=>rfl
  | j+4,hj=>omega
 have hk:∀ j,j<28->W.cell? ⟨2,j,none⟩=some (.bool (ruleB j)):=fun j hj=>by
  have:=key (j / 4) (by omega) (j % 4) (by omega)
  rwa [Nat.div_add_mod] at this
 exact⟨lt_of_cell (hk 0 (by omega)),hk⟩
end Go.Proofs.YtkpoodjhjfmfjaaGreatDoor
