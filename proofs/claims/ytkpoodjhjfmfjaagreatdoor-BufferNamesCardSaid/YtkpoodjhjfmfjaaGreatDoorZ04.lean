/- A part. -/
import Derived.Test.YtkpoodjhjfmfjaaGreatDoorZ01
import Derived.Laws.StructEq
import Derived.Carry
import Derived.Test.YtkpoodjhjfmfjaaGreatDoorLayU
import Derived.Lib.SlKeysI
set_option linter.unusedVariables false
set_option linter.unusedSimpArgs false
namespace Go.Proofs.YtkpoodjhjfmfjaaGreatDoor.Ovs
open Go.RowKit
section
variable {w w' : World} {x : OverE}
def insF (at_ n f t:Int) (fr re:Bool):Int:=if f=at_/\t=at_/\fr=true/\re=false then f else if at_<f\/(f=at_/\fr=true) then f+n else f
def insT (at_ n f t:Int) (fr re:Bool):Int:=if f=at_/\t=at_/\fr=true/\re=false then t else if at_<t\/(t=at_/\re=true) then t+n else t
set_option maxRecDepth 100000 in
set_option maxHeartbeats 4000000 in
theorem insEnds (hx:OverIn w x) (at_ n:Int) (hn0:0<=n) (hn1:n<=65536) (hf0:1<=x.f) (hf1:x.f<=1099511627776) (ht0:1<=x.t) (ht1:x.t<=1099511627776) :
  Calls Tryz.prog 241 #[.agg #[.int .i64 at_,.int .i64 n],.pointer (some ⟨x.g,0,none⟩)] w fun e w'=>e=.returned (.tuple #[.int .i64 (insF at_ n x.f x.t x.fr x.re),.int .i64 (insT at_ n x.f x.t x.fr x.re)])/\Below w.heap.size w w':=by
 obtain⟨id,f,t,fr,re,A,c,ps,g⟩:=x
 have hlt:g<w.heap.size:=hx.lt (foot_g _)
 have e1:=hx.cell 1 _ rfl
 have e2:=hx.cell 2 _ rfl
 have e3:=hx.cell 3 _ rfl
 have e4:=hx.cell 4 _ rfl
 dsimp only at e1 e2 e3 e4 hf0 hf1 ht0 ht1 ⊢
 have HF:=qH (rfl:insF at_ n f t fr re=insF at_ n f t fr re)
 clear hx HF
 have hB:∀(q:Nat) (w1:World),w1=w1->True:=fun _ _ _=>trivial
 clear hB
 rcases Int.lt_trichotomy f at_ with h1|h1|h1<;>rcases Int.lt_trichotomy t at_ with h2|h2|h2<;>cases fr<;>cases re
 ·have d1:(f == at_)=false:=by simp;omega
  have d2:decide (at_<f)=false:=by simp;omega
  have d3:(t == at_)=false:=by simp;omega
  have d4:decide (at_<t)=false:=by simp;omega
  have a1:insF at_ n f t false false=f:=by unfold insF;simp;omega
  have a2:insT at_ n f t false false=t:=by unfold insT;simp;omega
  rw[a1,a2]
  clear a1 a2 h1 h2
  go_enter Tryz.func241,Tryz.ntmps241
  go_wp2
  go_quiet (fail)
  go_wp2
  go_quiet (fail)
  go_wp2
  go_ret2
  exact⟨rfl,have b:=below1 w (.cells #[.int .i64 at_,.int .i64 n] 232);⟨b.os,b.tape,b.output,b.size,b.block⟩⟩
 ·have d1:(f == at_)=false:=by simp;omega
  have d2:decide (at_<f)=false:=by simp;omega
  have d3:(t == at_)=false:=by simp;omega
  have d4:decide (at_<t)=false:=by simp;omega
  have a1:insF at_ n f t false true=f:=by unfold insF;simp;omega
  have a2:insT at_ n f t false true=t:=by unfold insT;simp;omega
  rw[a1,a2]
  clear a1 a2 h1 h2
  go_enter Tryz.func241,Tryz.ntmps241
  go_wp2
  go_quiet (fail)
  go_wp2
  go_quiet (fail)
  go_wp2
  go_ret2
  exact⟨rfl,have b:=below1 w (.cells #[.int .i64 at_,.int .i64 n] 232);⟨b.os,b.tape,b.output,b.size,b.block⟩⟩
 ·have d1:(f == at_)=false:=by simp;omega
  have d2:decide (at_<f)=false:=by simp;omega
  have d3:(t == at_)=false:=by simp;omega
  have d4:decide (at_<t)=false:=by simp;omega
  have a1:insF at_ n f t true false=f:=by unfold insF;simp;omega
  have a2:insT at_ n f t true false=t:=by unfold insT;simp;omega
  rw[a1,a2]
  clear a1 a2 h1 h2
  go_enter Tryz.func241,Tryz.ntmps241
  go_wp2
  go_quiet (fail)
  go_wp2
  go_quiet (fail)
  go_wp2
  go_ret2
  exact⟨rfl,have b:=below1 w (.cells #[.int .i64 at_,.int .i64 n] 232);⟨b.os,b.tape,b.output,b.size,b.block⟩⟩
 ·have d1:(f == at_)=false:=by simp;omega
  have d2:decide (at_<f)=false:=by simp;omega
  have d3:(t == at_)=false:=by simp;omega
  have d4:decide (at_<t)=false:=by simp;omega
  have a1:insF at_ n f t true true=f:=by unfold insF;simp;omega
  have a2:insT at_ n f t true true=t:=by unfold insT;simp;omega
  rw[a1,a2]
  clear a1 a2 h1 h2
  go_enter Tryz.func241,Tryz.ntmps241
  go_wp2
  go_quiet (fail)
  go_wp2
  go_quiet (fail)
  go_wp2
  go_ret2
  exact⟨rfl,have b:=below1 w (.cells #[.int .i64 at_,.int .i64 n] 232);⟨b.os,b.tape,b.output,b.size,b.block⟩⟩
 ·have d1:(f == at_)=false:=by simp;omega
  have d2:decide (at_<f)=false:=by simp;omega
  have d3:(t == at_)=true:=by simp;omega
  have d4:decide (at_<t)=false:=by simp;omega
  have a1:insF at_ n f t false false=f:=by unfold insF;simp;omega
  have a2:insT at_ n f t false false=t:=by unfold insT;simp;omega
  rw[a1,a2]
  clear a1 a2 h1 h2
  go_enter Tryz.func241,Tryz.ntmps241
  go_wp2
  go_quiet (fail)
  go_wp2
  go_quiet (fail)
  go_wp2
  go_ret2
  exact⟨rfl,have b:=below1 w (.cells #[.int .i64 at_,.int .i64 n] 232);⟨b.os,b.tape,b.output,b.size,b.block⟩⟩
 ·have d1:(f == at_)=false:=by simp;omega
  have d2:decide (at_<f)=false:=by simp;omega
  have d3:(t == at_)=true:=by simp;omega
  have d4:decide (at_<t)=false:=by simp;omega
  have a1:insF at_ n f t false true=f:=by unfold insF;simp;omega
  have a2:insT at_ n f t false true=t+n:=by unfold insT;simp;omega
  rw[a1,a2]
  clear a1 a2 h1 h2
  go_enter Tryz.func241,Tryz.ntmps241
  go_wp2
  go_quiet (fail)
  go_wp2
  go_quiet (fail)
  go_wp2
  go_ret2
  exact⟨rfl,have b:=below1 w (.cells #[.int .i64 at_,.int .i64 n] 232);⟨b.os,b.tape,b.output,b.size,b.block⟩⟩
 ·have d1:(f == at_)=false:=by simp;omega
  have d2:decide (at_<f)=false:=by simp;omega
  have d3:(t == at_)=true:=by simp;omega
  have d4:decide (at_<t)=false:=by simp;omega
  have a1:insF at_ n f t true false=f:=by unfold insF;simp;omega
  have a2:insT at_ n f t true false=t:=by unfold insT;simp;omega
  rw[a1,a2]
  clear a1 a2 h1 h2
  go_enter Tryz.func241,Tryz.ntmps241
  go_wp2
  go_quiet (fail)
  go_wp2
  go_quiet (fail)
  go_wp2
  go_ret2
  exact⟨rfl,have b:=below1 w (.cells #[.int .i64 at_,.int .i64 n] 232);⟨b.os,b.tape,b.output,b.size,b.block⟩⟩
 ·have d1:(f == at_)=false:=by simp;omega
  have d2:decide (at_<f)=false:=by simp;omega
  have d3:(t == at_)=true:=by simp;omega
  have d4:decide (at_<t)=false:=by simp;omega
  have a1:insF at_ n f t true true=f:=by unfold insF;simp;omega
  have a2:insT at_ n f t true true=t+n:=by unfold insT;simp;omega
  rw[a1,a2]
  clear a1 a2 h1 h2
  go_enter Tryz.func241,Tryz.ntmps241
  go_wp2
  go_quiet (fail)
  go_wp2
  go_quiet (fail)
  go_wp2
  go_ret2
  exact⟨rfl,have b:=below1 w (.cells #[.int .i64 at_,.int .i64 n] 232);⟨b.os,b.tape,b.output,b.size,b.block⟩⟩
 ·have d1:(f == at_)=false:=by simp;omega
  have d2:decide (at_<f)=false:=by simp;omega
  have d3:(t == at_)=false:=by simp;omega
  have d4:decide (at_<t)=true:=by simp;omega
  have a1:insF at_ n f t false false=f:=by unfold insF;simp;omega
  have a2:insT at_ n f t false false=t+n:=by unfold insT;simp;omega
  rw[a1,a2]
  clear a1 a2 h1 h2
  go_enter Tryz.func241,Tryz.ntmps241
  go_wp2
  go_quiet (fail)
  go_wp2
  go_quiet (fail)
  go_wp2
  go_ret2
  exact⟨rfl,have b:=below1 w (.cells #[.int .i64 at_,.int .i64 n] 232);⟨b.os,b.tape,b.output,b.size,b.block⟩⟩
 ·have d1:(f == at_)=false:=by simp;omega
  have d2:decide (at_<f)=false:=by simp;omega
  have d3:(t == at_)=false:=by simp;omega
  have d4:decide (at_<t)=true:=by simp;omega
  have a1:insF at_ n f t false true=f:=by unfold insF;simp;omega
  have a2:insT at_ n f t false true=t+n:=by unfold insT;simp;omega
  rw[a1,a2]
  clear a1 a2 h1 h2
  go_enter Tryz.func241,Tryz.ntmps241
  go_wp2
  go_quiet (fail)
  go_wp2
  go_quiet (fail)
  go_wp2
  go_ret2
  exact⟨rfl,have b:=below1 w (.cells #[.int .i64 at_,.int .i64 n] 232);⟨b.os,b.tape,b.output,b.size,b.block⟩⟩
 ·have d1:(f == at_)=false:=by simp;omega
  have d2:decide (at_<f)=false:=by simp;omega
  have d3:(t == at_)=false:=by simp;omega
  have d4:decide (at_<t)=true:=by simp;omega
  have a1:insF at_ n f t true false=f:=by unfold insF;simp;omega
  have a2:insT at_ n f t true false=t+n:=by unfold insT;simp;omega
  rw[a1,a2]
  clear a1 a2 h1 h2
  go_enter Tryz.func241,Tryz.ntmps241
  go_wp2
  go_quiet (fail)
  go_wp2
  go_quiet (fail)
  go_wp2
  go_ret2
  exact⟨rfl,have b:=below1 w (.cells #[.int .i64 at_,.int .i64 n] 232);⟨b.os,b.tape,b.output,b.size,b.block⟩⟩
 ·have d1:(f == at_)=false:=by simp;omega
  have d2:decide (at_<f)=false:=by simp;omega
  have d3:(t == at_)=false:=by simp;omega
  have d4:decide (at_<t)=true:=by simp;omega
  have a1:insF at_ n f t true true=f:=by unfold insF;simp;omega
  have a2:insT at_ n f t true true=t+n:=by unfold insT;simp;omega
  rw[a1,a2]
  clear a1 a2 h1 h2
  go_enter Tryz.func241,Tryz.ntmps241
  go_wp2
  go_quiet (fail)
  go_wp2
  go_quiet (fail)
  go_wp2
  go_ret2
  exact⟨rfl,have b:=below1 w (.cells #[.int .i64 at_,.int .i64 n] 232);⟨b.os,b.tape,b.output,b.size,b.block⟩⟩
 ·have d1:(f == at_)=true:=by simp;omega
  have d2:decide (at_<f)=false:=by simp;omega
  have d3:(t == at_)=false:=by simp;omega
  have d4:decide (at_<t)=false:=by simp;omega
  have a1:insF at_ n f t false false=f:=by unfold insF;simp;omega
  have a2:insT at_ n f t false false=t:=by unfold insT;simp;omega
  rw[a1,a2]
  clear a1 a2 h1 h2
  go_enter Tryz.func241,Tryz.ntmps241
  go_wp2
  go_quiet (fail)
  go_wp2
  go_quiet (fail)
  go_wp2
  go_ret2
  exact⟨rfl,have b:=below1 w (.cells #[.int .i64 at_,.int .i64 n] 232);⟨b.os,b.tape,b.output,b.size,b.block⟩⟩
 ·have d1:(f == at_)=true:=by simp;omega
  have d2:decide (at_<f)=false:=by simp;omega
  have d3:(t == at_)=false:=by simp;omega
  have d4:decide (at_<t)=false:=by simp;omega
  have a1:insF at_ n f t false true=f:=by unfold insF;simp;omega
  have a2:insT at_ n f t false true=t:=by unfold insT;simp;omega
  rw[a1,a2]
  clear a1 a2 h1 h2
  go_enter Tryz.func241,Tryz.ntmps241
  go_wp2
  go_quiet (fail)
  go_wp2
  go_quiet (fail)
  go_wp2
  go_ret2
  exact⟨rfl,have b:=below1 w (.cells #[.int .i64 at_,.int .i64 n] 232);⟨b.os,b.tape,b.output,b.size,b.block⟩⟩
 ·have d1:(f == at_)=true:=by simp;omega
  have d2:decide (at_<f)=false:=by simp;omega
  have d3:(t == at_)=false:=by simp;omega
  have d4:decide (at_<t)=false:=by simp;omega
  have a1:insF at_ n f t true false=f+n:=by unfold insF;simp;omega
  have a2:insT at_ n f t true false=t:=by unfold insT;simp;omega
  rw[a1,a2]
  clear a1 a2 h1 h2
  go_enter Tryz.func241,Tryz.ntmps241
  go_wp2
  go_quiet (fail)
  go_wp2
  go_quiet (fail)
  go_wp2
  go_ret2
  exact⟨rfl,have b:=below1 w (.cells #[.int .i64 at_,.int .i64 n] 232);⟨b.os,b.tape,b.output,b.size,b.block⟩⟩
 ·have d1:(f == at_)=true:=by simp;omega
  have d2:decide (at_<f)=false:=by simp;omega
  have d3:(t == at_)=false:=by simp;omega
  have d4:decide (at_<t)=false:=by simp;omega
  have a1:insF at_ n f t true true=f+n:=by unfold insF;simp;omega
  have a2:insT at_ n f t true true=t:=by unfold insT;simp;omega
  rw[a1,a2]
  clear a1 a2 h1 h2
  go_enter Tryz.func241,Tryz.ntmps241
  go_wp2
  go_quiet (fail)
  go_wp2
  go_quiet (fail)
  go_wp2
  go_ret2
  exact⟨rfl,have b:=below1 w (.cells #[.int .i64 at_,.int .i64 n] 232);⟨b.os,b.tape,b.output,b.size,b.block⟩⟩
 ·have d1:(f == at_)=true:=by simp;omega
  have d2:decide (at_<f)=false:=by simp;omega
  have d3:(t == at_)=true:=by simp;omega
  have d4:decide (at_<t)=false:=by simp;omega
  have a1:insF at_ n f t false false=f:=by unfold insF;simp;omega
  have a2:insT at_ n f t false false=t:=by unfold insT;simp;omega
  rw[a1,a2]
  clear a1 a2 h1 h2
  go_enter Tryz.func241,Tryz.ntmps241
  go_wp2
  go_quiet (fail)
  go_wp2
  go_quiet (fail)
  go_wp2
  go_ret2
  exact⟨rfl,have b:=below1 w (.cells #[.int .i64 at_,.int .i64 n] 232);⟨b.os,b.tape,b.output,b.size,b.block⟩⟩
 ·have d1:(f == at_)=true:=by simp;omega
  have d2:decide (at_<f)=false:=by simp;omega
  have d3:(t == at_)=true:=by simp;omega
  have d4:decide (at_<t)=false:=by simp;omega
  have a1:insF at_ n f t false true=f:=by unfold insF;simp;omega
  have a2:insT at_ n f t false true=t+n:=by unfold insT;simp;omega
  rw[a1,a2]
  clear a1 a2 h1 h2
  go_enter Tryz.func241,Tryz.ntmps241
  go_wp2
  go_quiet (fail)
  go_wp2
  go_quiet (fail)
  go_wp2
  go_ret2
  exact⟨rfl,have b:=below1 w (.cells #[.int .i64 at_,.int .i64 n] 232);⟨b.os,b.tape,b.output,b.size,b.block⟩⟩
 ·have d1:(f == at_)=true:=by simp;omega
  have d2:decide (at_<f)=false:=by simp;omega
  have d3:(t == at_)=true:=by simp;omega
  have d4:decide (at_<t)=false:=by simp;omega
  have a1:insF at_ n f t true false=f:=by unfold insF;simp;omega
  have a2:insT at_ n f t true false=t:=by unfold insT;simp;omega
  rw[a1,a2]
  clear a1 a2 h1 h2
  go_enter Tryz.func241,Tryz.ntmps241
  go_wp2
  go_quiet (fail)
  go_wp2
  go_ret2
  exact⟨rfl,have b:=below1 w (.cells #[.int .i64 at_,.int .i64 n] 232);⟨b.os,b.tape,b.output,b.size,b.block⟩⟩
 ·have d1:(f == at_)=true:=by simp;omega
  have d2:decide (at_<f)=false:=by simp;omega
  have d3:(t == at_)=true:=by simp;omega
  have d4:decide (at_<t)=false:=by simp;omega
  have a1:insF at_ n f t true true=f+n:=by unfold insF;simp;omega
  have a2:insT at_ n f t true true=t+n:=by unfold insT;simp;omega
  rw[a1,a2]
  clear a1 a2 h1 h2
  go_enter Tryz.func241,Tryz.ntmps241
  go_wp2
  go_quiet (fail)
  go_wp2
  go_quiet (fail)
  go_wp2
  go_ret2
  exact⟨rfl,have b:=below1 w (.cells #[.int .i64 at_,.int .i64 n] 232);⟨b.os,b.tape,b.output,b.size,b.block⟩⟩
 ·have d1:(f == at_)=true:=by simp;omega
  have d2:decide (at_<f)=false:=by simp;omega
  have d3:(t == at_)=false:=by simp;omega
  have d4:decide (at_<t)=true:=by simp;omega
  have a1:insF at_ n f t false false=f:=by unfold insF;simp;omega
  have a2:insT at_ n f t false false=t+n:=by unfold insT;simp;omega
  rw[a1,a2]
  clear a1 a2 h1 h2
  go_enter Tryz.func241,Tryz.ntmps241
  go_wp2
  go_quiet (fail)
  go_wp2
  go_quiet (fail)
  go_wp2
  go_ret2
  exact⟨rfl,have b:=below1 w (.cells #[.int .i64 at_,.int .i64 n] 232);⟨b.os,b.tape,b.output,b.size,b.block⟩⟩
 ·have d1:(f == at_)=true:=by simp;omega
  have d2:decide (at_<f)=false:=by simp;omega
  have d3:(t == at_)=false:=by simp;omega
  have d4:decide (at_<t)=true:=by simp;omega
  have a1:insF at_ n f t false true=f:=by unfold insF;simp;omega
  have a2:insT at_ n f t false true=t+n:=by unfold insT;simp;omega
  rw[a1,a2]
  clear a1 a2 h1 h2
  go_enter Tryz.func241,Tryz.ntmps241
  go_wp2
  go_quiet (fail)
  go_wp2
  go_quiet (fail)
  go_wp2
  go_ret2
  exact⟨rfl,have b:=below1 w (.cells #[.int .i64 at_,.int .i64 n] 232);⟨b.os,b.tape,b.output,b.size,b.block⟩⟩
 ·have d1:(f == at_)=true:=by simp;omega
  have d2:decide (at_<f)=false:=by simp;omega
  have d3:(t == at_)=false:=by simp;omega
  have d4:decide (at_<t)=true:=by simp;omega
  have a1:insF at_ n f t true false=f+n:=by unfold insF;simp;omega
  have a2:insT at_ n f t true false=t+n:=by unfold insT;simp;omega
  rw[a1,a2]
  clear a1 a2 h1 h2
  go_enter Tryz.func241,Tryz.ntmps241
  go_wp2
  go_quiet (fail)
  go_wp2
  go_quiet (fail)
  go_wp2
  go_ret2
  exact⟨rfl,have b:=below1 w (.cells #[.int .i64 at_,.int .i64 n] 232);⟨b.os,b.tape,b.output,b.size,b.block⟩⟩
 ·have d1:(f == at_)=true:=by simp;omega
  have d2:decide (at_<f)=false:=by simp;omega
  have d3:(t == at_)=false:=by simp;omega
  have d4:decide (at_<t)=true:=by simp;omega
  have a1:insF at_ n f t true true=f+n:=by unfold insF;simp;omega
  have a2:insT at_ n f t true true=t+n:=by unfold insT;simp;omega
  rw[a1,a2]
  clear a1 a2 h1 h2
  go_enter Tryz.func241,Tryz.ntmps241
  go_wp2
  go_quiet (fail)
  go_wp2
  go_quiet (fail)
  go_wp2
  go_ret2
  exact⟨rfl,have b:=below1 w (.cells #[.int .i64 at_,.int .i64 n] 232);⟨b.os,b.tape,b.output,b.size,b.block⟩⟩
 ·have d1:(f == at_)=false:=by simp;omega
  have d2:decide (at_<f)=true:=by simp;omega
  have d3:(t == at_)=false:=by simp;omega
  have d4:decide (at_<t)=false:=by simp;omega
  have a1:insF at_ n f t false false=f+n:=by unfold insF;simp;omega
  have a2:insT at_ n f t false false=t:=by unfold insT;simp;omega
  rw[a1,a2]
  clear a1 a2 h1 h2
  go_enter Tryz.func241,Tryz.ntmps241
  go_wp2
  go_quiet (fail)
  go_wp2
  go_quiet (fail)
  go_wp2
  go_ret2
  exact⟨rfl,have b:=below1 w (.cells #[.int .i64 at_,.int .i64 n] 232);⟨b.os,b.tape,b.output,b.size,b.block⟩⟩
 ·have d1:(f == at_)=false:=by simp;omega
  have d2:decide (at_<f)=true:=by simp;omega
  have d3:(t == at_)=false:=by simp;omega
  have d4:decide (at_<t)=false:=by simp;omega
  have a1:insF at_ n f t false true=f+n:=by unfold insF;simp;omega
  have a2:insT at_ n f t false true=t:=by unfold insT;simp;omega
  rw[a1,a2]
  clear a1 a2 h1 h2
  go_enter Tryz.func241,Tryz.ntmps241
  go_wp2
  go_quiet (fail)
  go_wp2
  go_quiet (fail)
  go_wp2
  go_ret2
  exact⟨rfl,have b:=below1 w (.cells #[.int .i64 at_,.int .i64 n] 232);⟨b.os,b.tape,b.output,b.size,b.block⟩⟩
 ·have d1:(f == at_)=false:=by simp;omega
  have d2:decide (at_<f)=true:=by simp;omega
  have d3:(t == at_)=false:=by simp;omega
  have d4:decide (at_<t)=false:=by simp;omega
  have a1:insF at_ n f t true false=f+n:=by unfold insF;simp;omega
  have a2:insT at_ n f t true false=t:=by unfold insT;simp;omega
  rw[a1,a2]
  clear a1 a2 h1 h2
  go_enter Tryz.func241,Tryz.ntmps241
  go_wp2
  go_quiet (fail)
  go_wp2
  go_quiet (fail)
  go_wp2
  go_ret2
  exact⟨rfl,have b:=below1 w (.cells #[.int .i64 at_,.int .i64 n] 232);⟨b.os,b.tape,b.output,b.size,b.block⟩⟩
 ·have d1:(f == at_)=false:=by simp;omega
  have d2:decide (at_<f)=true:=by simp;omega
  have d3:(t == at_)=false:=by simp;omega
  have d4:decide (at_<t)=false:=by simp;omega
  have a1:insF at_ n f t true true=f+n:=by unfold insF;simp;omega
  have a2:insT at_ n f t true true=t:=by unfold insT;simp;omega
  rw[a1,a2]
  clear a1 a2 h1 h2
  go_enter Tryz.func241,Tryz.ntmps241
  go_wp2
  go_quiet (fail)
  go_wp2
  go_quiet (fail)
  go_wp2
  go_ret2
  exact⟨rfl,have b:=below1 w (.cells #[.int .i64 at_,.int .i64 n] 232);⟨b.os,b.tape,b.output,b.size,b.block⟩⟩
 ·have d1:(f == at_)=false:=by simp;omega
  have d2:decide (at_<f)=true:=by simp;omega
  have d3:(t == at_)=true:=by simp;omega
  have d4:decide (at_<t)=false:=by simp;omega
  have a1:insF at_ n f t false false=f+n:=by unfold insF;simp;omega
  have a2:insT at_ n f t false false=t:=by unfold insT;simp;omega
  rw[a1,a2]
  clear a1 a2 h1 h2
  go_enter Tryz.func241,Tryz.ntmps241
  go_wp2
  go_quiet (fail)
  go_wp2
  go_quiet (fail)
  go_wp2
  go_ret2
  exact⟨rfl,have b:=below1 w (.cells #[.int .i64 at_,.int .i64 n] 232);⟨b.os,b.tape,b.output,b.size,b.block⟩⟩
 ·have d1:(f == at_)=false:=by simp;omega
  have d2:decide (at_<f)=true:=by simp;omega
  have d3:(t == at_)=true:=by simp;omega
  have d4:decide (at_<t)=false:=by simp;omega
  have a1:insF at_ n f t false true=f+n:=by unfold insF;simp;omega
  have a2:insT at_ n f t false true=t+n:=by unfold insT;simp;omega
  rw[a1,a2]
  clear a1 a2 h1 h2
  go_enter Tryz.func241,Tryz.ntmps241
  go_wp2
  go_quiet (fail)
  go_wp2
  go_quiet (fail)
  go_wp2
  go_ret2
  exact⟨rfl,have b:=below1 w (.cells #[.int .i64 at_,.int .i64 n] 232);⟨b.os,b.tape,b.output,b.size,b.block⟩⟩
 ·have d1:(f == at_)=false:=by simp;omega
  have d2:decide (at_<f)=true:=by simp;omega
  have d3:(t == at_)=true:=by simp;omega
  have d4:decide (at_<t)=false:=by simp;omega
  have a1:insF at_ n f t true false=f+n:=by unfold insF;simp;omega
  have a2:insT at_ n f t true false=t:=by unfold insT;simp;omega
  rw[a1,a2]
  clear a1 a2 h1 h2
  go_enter Tryz.func241,Tryz.ntmps241
  go_wp2
  go_quiet (fail)
  go_wp2
  go_quiet (fail)
  go_wp2
  go_ret2
  exact⟨rfl,have b:=below1 w (.cells #[.int .i64 at_,.int .i64 n] 232);⟨b.os,b.tape,b.output,b.size,b.block⟩⟩
 ·have d1:(f == at_)=false:=by simp;omega
  have d2:decide (at_<f)=true:=by simp;omega
  have d3:(t == at_)=true:=by simp;omega
  have d4:decide (at_<t)=false:=by simp;omega
  have a1:insF at_ n f t true true=f+n:=by unfold insF;simp;omega
  have a2:insT at_ n f t true true=t+n:=by unfold insT;simp;omega
  rw[a1,a2]
  clear a1 a2 h1 h2
  go_enter Tryz.func241,Tryz.ntmps241
  go_wp2
  go_quiet (fail)
  go_wp2
  go_quiet (fail)
  go_wp2
  go_ret2
  exact⟨rfl,have b:=below1 w (.cells #[.int .i64 at_,.int .i64 n] 232);⟨b.os,b.tape,b.output,b.size,b.block⟩⟩
 ·have d1:(f == at_)=false:=by simp;omega
  have d2:decide (at_<f)=true:=by simp;omega
  have d3:(t == at_)=false:=by simp;omega
  have d4:decide (at_<t)=true:=by simp;omega
  have a1:insF at_ n f t false false=f+n:=by unfold insF;simp;omega
  have a2:insT at_ n f t false false=t+n:=by unfold insT;simp;omega
  rw[a1,a2]
  clear a1 a2 h1 h2
  go_enter Tryz.func241,Tryz.ntmps241
  go_wp2
  go_quiet (fail)
  go_wp2
  go_quiet (fail)
  go_wp2
  go_ret2
  exact⟨rfl,have b:=below1 w (.cells #[.int .i64 at_,.int .i64 n] 232);⟨b.os,b.tape,b.output,b.size,b.block⟩⟩
 ·have d1:(f == at_)=false:=by simp;omega
  have d2:decide (at_<f)=true:=by simp;omega
  have d3:(t == at_)=false:=by simp;omega
  have d4:decide (at_<t)=true:=by simp;omega
  have a1:insF at_ n f t false true=f+n:=by unfold insF;simp;omega
  have a2:insT at_ n f t false true=t+n:=by unfold insT;simp;omega
  rw[a1,a2]
  clear a1 a2 h1 h2
  go_enter Tryz.func241,Tryz.ntmps241
  go_wp2
  go_quiet (fail)
  go_wp2
  go_quiet (fail)
  go_wp2
  go_ret2
  exact⟨rfl,have b:=below1 w (.cells #[.int .i64 at_,.int .i64 n] 232);⟨b.os,b.tape,b.output,b.size,b.block⟩⟩
 ·have d1:(f == at_)=false:=by simp;omega
  have d2:decide (at_<f)=true:=by simp;omega
  have d3:(t == at_)=false:=by simp;omega
  have d4:decide (at_<t)=true:=by simp;omega
  have a1:insF at_ n f t true false=f+n:=by unfold insF;simp;omega
  have a2:insT at_ n f t true false=t+n:=by unfold insT;simp;omega
  rw[a1,a2]
  clear a1 a2 h1 h2
  go_enter Tryz.func241,Tryz.ntmps241
  go_wp2
  go_quiet (fail)
  go_wp2
  go_quiet (fail)
  go_wp2
  go_ret2
  exact⟨rfl,have b:=below1 w (.cells #[.int .i64 at_,.int .i64 n] 232);⟨b.os,b.tape,b.output,b.size,b.block⟩⟩
 ·have d1:(f == at_)=false:=by simp;omega
  have d2:decide (at_<f)=true:=by simp;omega
  have d3:(t == at_)=false:=by simp;omega
  have d4:decide (at_<t)=true:=by simp;omega
  have a1:insF at_ n f t true true=f+n:=by unfold insF;simp;omega
  have a2:insT at_ n f t true true=t+n:=by unfold insT;simp;omega
  rw[a1,a2]
  clear a1 a2 h1 h2
  go_enter Tryz.func241,Tryz.ntmps241
  go_wp2
  go_quiet (fail)
  go_wp2
  go_quiet (fail)
  go_wp2
  go_ret2
  exact⟨rfl,have b:=below1 w (.cells #[.int .i64 at_,.int .i64 n] 232);⟨b.os,b.tape,b.output,b.size,b.block⟩⟩
end
end Go.Proofs.YtkpoodjhjfmfjaaGreatDoor.Ovs
namespace Go.Proofs.YtkpoodjhjfmfjaaGreatDoor.Ovs
open Go.RowKit
section
variable {w w' : World} {x : OverE}
def backI (a f t:Int):Int:=if t<=a then a -(t - f) else if f<a then f else a
set_option maxHeartbeats 1000000 in
theorem back_any (a f t:Int) (w:World) (ha0:1<=a) (ha1:a<=1099511627776) (hf0:1<=f) (hf1:f<=t) (ht1:t<=1099511627776) :
  Calls Tryz.prog 355 #[.agg #[.int .i64 f,.int .i64 t],.int .i64 a] w fun e w'=>e=.returned (.int .i64 (backI a f t))/\Below w.heap.size w w':=by
 by_cases h1:t<=a
 ·have e1:backI a f t=a -(t - f):=by unfold backI;rw[if_pos h1]
  have d1:decide (t<=a)=true:=decide_eq_true h1
  rw[e1]
  clear e1
  go_enter Tryz.func355,Tryz.ntmps355
  go_wp2
  go_ret
  exact⟨rfl,below1 _ _⟩
 ·have d1:decide (t<=a)=false:=decide_eq_false h1
  by_cases h2:f<a
  ·have e1:backI a f t=f:=by unfold backI;rw[if_neg h1,if_pos h2]
   have d2:decide (f<a)=true:=decide_eq_true h2
   rw[e1]
   clear e1
   go_enter Tryz.func355,Tryz.ntmps355
   go_wp2
   go_ret
   exact⟨rfl,below1 _ _⟩
  ·have e1:backI a f t=a:=by unfold backI;rw[if_neg h1,if_neg h2]
   have d2:decide (f<a)=false:=decide_eq_false h2
   rw[e1]
   clear e1
   go_enter Tryz.func355,Tryz.ntmps355
   go_wp2
   go_ret
   exact⟨rfl,below1 _ _⟩
set_option maxRecDepth 100000 in
set_option maxHeartbeats 1000000 in
theorem remEnds (hx:OverIn w x) (f t:Int) (hf0:1<=x.f) (hf1:x.f<=1099511627776) (ht0:1<=x.t) (ht1:x.t<=1099511627776) (h0:1<=f) (h1:f<=t) (h2:t<=1099511627776) :
  Calls Tryz.prog 356 #[.agg #[.int .i64 f,.int .i64 t],.pointer (some ⟨x.g,0,none⟩)] w fun e w'=>e=.returned (.tuple #[.int .i64 (backI x.f f t),.int .i64 (backI x.t f t)])/\Below w.heap.size w w':=by
 have HB1:=qH (fun w1=>back_any x.f f t w1 hf0 hf1 h0 h1 h2)
 have HB2:=qH (fun w1=>back_any x.t f t w1 ht0 ht1 h0 h1 h2)
 have hb:=below1 w (.cells #[.int .i64 f,.int .i64 t] 225)
 have hx1:=hx.up hb
 have hlt:=hx1.lt (foot_g x)
 have C0:∀ y:UpW (w.alloc (.cells #[.int .i64 f,.int .i64 t] 225)).heap.size (w.alloc (.cells #[.int .i64 f,.int .i64 t] 225)),y.w.cell? ⟨w.heap.size,0,none⟩=some (.int .i64 f):=fun y=>(y.up.cell (p:=⟨w.heap.size,0,none⟩) (by simp)).trans (by simp)
 have C1:∀ y:UpW (w.alloc (.cells #[.int .i64 f,.int .i64 t] 225)).heap.size (w.alloc (.cells #[.int .i64 f,.int .i64 t] 225)),y.w.cell? ⟨w.heap.size,1,none⟩=some (.int .i64 t):=fun y=>(y.up.cell (p:=⟨w.heap.size,1,none⟩) (by simp)).trans (by simp)
 have C2:∀ y:UpW (w.alloc (.cells #[.int .i64 f,.int .i64 t] 225)).heap.size (w.alloc (.cells #[.int .i64 f,.int .i64 t] 225)),y.w.cell? ⟨x.g,1,none⟩=some (.int .i64 x.f):=fun y=>(y.up.cell (p:=⟨x.g,1,none⟩) hlt).trans (hx1.cell 1 _ rfl)
 have C3:∀ y:UpW (w.alloc (.cells #[.int .i64 f,.int .i64 t] 225)).heap.size (w.alloc (.cells #[.int .i64 f,.int .i64 t] 225)),y.w.cell? ⟨x.g,2,none⟩=some (.int .i64 x.t):=fun y=>(y.up.cell (p:=⟨x.g,2,none⟩) hlt).trans (hx1.cell 2 _ rfl)
 clear hx hx1 hlt HB1 HB2
 go_enter Tryz.func356,Tryz.ntmps356
 go_wp2
 refine wp_region_up (w.alloc (.cells #[.int .i64 f,.int .i64 t] 225)).heap.size (by kernel_rfl) (by kernel_rfl) ?_
 repeat (go_big_quiet_step ((go_at_call 355;exact Calls.up _ (Nat.le_refl _) (back_any _ _ _ _ (by omega) (by omega) (by omega) (by omega) (by omega)))))
 refine wpQuiet_nil ?_
 rintro ⟨w2,hb2⟩
 dsimp only
 go_wp2
 go_ret2
 exact⟨rfl,up2 hb hb2⟩
end
end Go.Proofs.YtkpoodjhjfmfjaaGreatDoor.Ovs
namespace Go.Proofs.YtkpoodjhjfmfjaaGreatDoor.Ovs
open Go.RowKit
section
variable {w w' : World} {x : OverE} {L L' M : List OverE} {b : Nat} {pr ev nx : Int} {v v' : Value} {A : Option Addr}
def endsX (u:OverE->Int × Int) (x:OverE):OverE:=withEnds x (u x).1 (u x).2
def movedK (u:OverE->Int × Int) (L:List OverE) (k:Nat):List OverE:=(L.take k).map (endsX u)++L.drop k
theorem movedK_zero (u:OverE->Int × Int) (L:List OverE):movedK u L 0=L:=by simp[movedK]
theorem movedK_all (u:OverE->Int × Int) (L:List OverE):movedK u L L.length=L.map (endsX u):=by simp[movedK]
theorem movedK_at (u:OverE->Int × Int) {k:Nat} {x:OverE} (hx:L[k]?=some x):(movedK u L k)[k]?=some x:=by
 have hk:=(List.getElem?_eq_some_iff.1 hx).1
 unfold movedK
 rw[List.getElem?_append_right (by simp;omega)]
 simp only[List.length_map,List.length_take,Nat.min_eq_left (Nat.le_of_lt hk),Nat.sub_self,List.getElem?_drop,Nat.add_zero]
 exact hx
theorem movedK_succ (u:OverE->Int × Int) {k:Nat} {x:OverE} (hx:L[k]?=some x):(movedK u L k).set k (endsX u x)=movedK u L (k+1):=by
 obtain⟨hk,he⟩:=List.getElem?_eq_some_iff.1 hx
 unfold movedK
 have hl:((L.take k).map (endsX u)).length=k:=by simp;omega
 rw[List.set_append_right _ _ (by omega),hl,Nat.sub_self,List.drop_eq_getElem_cons hk,he,List.set_cons_zero,List.take_succ_eq_append_getElem hk,he]
 simp
theorem movedK_foot (u:OverE->Int × Int) (L:List OverE) (k:Nat):(movedK u L k).flatMap OverE.foot=L.flatMap OverE.foot:=by
 unfold movedK
 have h:∀ l:List OverE,(l.map (endsX u)).flatMap OverE.foot=l.flatMap OverE.foot:=fun l=>by
  induction l with
  | nil=>rfl
  | cons a l ih=>rw[List.map_cons,List.flatMap_cons,List.flatMap_cons,ih];rfl
 rw[List.flatMap_append,h,<-List.flatMap_append,List.take_append_drop]
theorem movedK_length (u:OverE->Int × Int) {k:Nat} (hk:k<=L.length):(movedK u L k).length=L.length:=by
 simp[movedK];omega
set_option maxRecDepth 100000 in
set_option maxHeartbeats 1000000 in
theorem apply_ins (h:OvsAt w b pr ev v L nx) {at_ n:Int} (hn0:0<=n) (hn1:n<=65536) (hp:∀ x ∈ L,1<=x.f/\x.f<=1099511627776/\1<=x.t/\x.t<=1099511627776) (hl:L.length<=1000000) :
  Calls Tryz.prog 228 #[.pointer (some ⟨b,0,none⟩),.iface 232 (.agg #[.int .i64 at_,.int .i64 n])] w fun e w'=>e=.returned (.tuple #[])/\OvsAt w' b pr ev v (L.map (endsX (fun x=>(insF at_ n x.f x.t x.fr x.re,insT at_ n x.f x.t x.fr x.re)))) nx/\Only (· ∈ footS b v L) w w':=by
 obtain⟨A,cp,rfl,hA1,hA2,hAs⟩:=h.own.shape eltT
 have c2:=h.cell 2 _ rfl
 have H:=qH h
 have HAs:=qH hAs
 clear h hAs
 go_enter Tryz.func228,Tryz.ntmps228
 go_wp2_with fail
 clear c2
 go_loopw [11] (fun vi wr=>∃ k:Nat,k<=L.length/\vi=.int .i64 k/\OvsAt wr b pr ev (.slice A L.length cp) (movedK (fun x=>(insF at_ n x.f x.t x.fr x.re,insT at_ n x.f x.t x.fr x.re)) L k) nx/\Only (· ∈ footS b (.slice A L.length cp) L) w wr) (fun vi _=>L.length -(intOf vi).toNat)
 case atStart=>exact⟨0,by omega,rfl,by rw[movedK_zero];exact H.out,Only.refl _ _⟩
 case round=>
  obtain⟨k,hk,rfl,T,hon⟩:=hrel
  have HT:=qH T
  have HON:=qH hon
  clear T hon
  by_cases hlt:k<L.length
  ·obtain⟨x,hx⟩:∃ x,L[k]?=some x:=⟨_,List.getElem?_eq_getElem hlt⟩
   have hxm:=movedK_at (fun x=>(insF at_ n x.f x.t x.fr x.re,insT at_ n x.f x.t x.fr x.re)) hx
   obtain⟨A1,c1,hv1,_,_,hr1⟩:=HT.out.own.shape eltT
   rw[movedK_length _ hk] at hv1
   cases hv1
   obtain⟨g,o,hAe,hg,hc⟩:=hr1.at_ eltT hxm
   have k0:=hc 0 _ rfl
   simp only[Nat.mul_one,Nat.add_zero] at k0
   have hin:=HT.out.ins x (List.mem_of_getElem? hxm)
   have HX:=qH hx
   have HXM:=qH hxm
   have hlt':(k:Int)<L.length:=by omega
   have HIN:=qH hin
   have HAE:=qH hAe
   clear hx hxm hc hin hr1 hAe
   have hAe:=HAE.out
   subst hAe
   have hm:∀ w:World,(method 249 232 (.agg #[.int .i64 at_,.int .i64 n]) "copyist/overs.ends").run Tryz.prog w=.ok (241,(.agg #[.int .i64 at_,.int .i64 n])) w:=fun _=>by kernel_rfl
   have HCN:=qH (insEnds HIN.out at_ n hn0 hn1 (hp x (List.mem_of_getElem? HX.out)).1 (hp x (List.mem_of_getElem? HX.out)).2.1 (hp x (List.mem_of_getElem? HX.out)).2.2.1 (hp x (List.mem_of_getElem? HX.out)).2.2.2)
   go_wp2_with fail
   refine HCN.out.mono ?_
   rintro e w1 ⟨rfl,hb⟩
   have T1:=HT.out.up hb
   have hin1:=HIN.out.up hb
   have z1:=hin1.fz 1
   have z2:=hin1.fz 2
   have q1:=hin1.cell 1 _ rfl
   have q2:=hin1.cell 2 _ rfl
   have hst:=T1.ends HXM.out ((fun x=>(insF at_ n x.f x.t x.fr x.re,insT at_ n x.f x.t x.fr x.re)) x).1 ((fun x=>(insF at_ n x.f x.t x.fr x.re,insT at_ n x.f x.t x.fr x.re)) x).2
   rw[show withEnds x ((fun x=>(insF at_ n x.f x.t x.fr x.re,insT at_ n x.f x.t x.fr x.re)) x).1 ((fun x=>(insF at_ n x.f x.t x.fr x.re,insT at_ n x.f x.t x.fr x.re)) x).2=endsX (fun x=>(insF at_ n x.f x.t x.fr x.re,insT at_ n x.f x.t x.fr x.re)) x from rfl,movedK_succ (fun x=>(insF at_ n x.f x.t x.fr x.re,insT at_ n x.f x.t x.fr x.re)) HX.out] at hst
   have HST:=qH hst
   have hgf:x.g ∈ footS b (.slice (some ⟨g,o,none⟩) L.length cp) L:=foot_x (List.mem_of_getElem? HX.out) (foot_g x)
   have HG:=qH hgf
   have HB:=qH hb
   clear T1 hin1 hst hgf hb k0
   go_wp2_with fail
   go_roundw
   case rel=>exact⟨k+1,by omega,by go_num,HST.out,((HON.out.trans (Only.of_below HB.out)).setCell (p:=⟨x.g,1,none⟩) HG.out _).setCell (p:=⟨x.g,2,none⟩) HG.out _⟩
   case measure=>simp[intOf];omega
  ·obtain rfl:k=L.length:=by omega
   go_wp2_with fail
   refine bodyPost_end (results_none rfl _ _ _) rfl ?_
   exact⟨rfl,by rw[<-movedK_all];exact HT.out,HON.out⟩
set_option maxRecDepth 100000 in
set_option maxHeartbeats 1000000 in
theorem apply_rem (h:OvsAt w b pr ev v L nx) {rf rt:Int} (h0:1<=rf) (h1:rf<=rt) (h2:rt<=1099511627776) (hp:∀ x ∈ L,1<=x.f/\x.f<=1099511627776/\1<=x.t/\x.t<=1099511627776) (hl:L.length<=1000000) :
  Calls Tryz.prog 228 #[.pointer (some ⟨b,0,none⟩),.iface 225 (.agg #[.int .i64 rf,.int .i64 rt])] w fun e w'=>e=.returned (.tuple #[])/\OvsAt w' b pr ev v (L.map (endsX (fun x=>(backI x.f rf rt,backI x.t rf rt)))) nx/\Only (· ∈ footS b v L) w w':=by
 obtain⟨A,cp,rfl,hA1,hA2,hAs⟩:=h.own.shape eltT
 have c2:=h.cell 2 _ rfl
 have H:=qH h
 have HAs:=qH hAs
 clear h hAs
 go_enter Tryz.func228,Tryz.ntmps228
 go_wp2_with fail
 clear c2
 go_loopw [11] (fun vi wr=>∃ k:Nat,k<=L.length/\vi=.int .i64 k/\OvsAt wr b pr ev (.slice A L.length cp) (movedK (fun x=>(backI x.f rf rt,backI x.t rf rt)) L k) nx/\Only (· ∈ footS b (.slice A L.length cp) L) w wr) (fun vi _=>L.length -(intOf vi).toNat)
 case atStart=>exact⟨0,by omega,rfl,by rw[movedK_zero];exact H.out,Only.refl _ _⟩
 case round=>
  obtain⟨k,hk,rfl,T,hon⟩:=hrel
  have HT:=qH T
  have HON:=qH hon
  clear T hon
  by_cases hlt:k<L.length
  ·obtain⟨x,hx⟩:∃ x,L[k]?=some x:=⟨_,List.getElem?_eq_getElem hlt⟩
   have hxm:=movedK_at (fun x=>(backI x.f rf rt,backI x.t rf rt)) hx
   obtain⟨A1,c1,hv1,_,_,hr1⟩:=HT.out.own.shape eltT
   rw[movedK_length _ hk] at hv1
   cases hv1
   obtain⟨g,o,hAe,hg,hc⟩:=hr1.at_ eltT hxm
   have k0:=hc 0 _ rfl
   simp only[Nat.mul_one,Nat.add_zero] at k0
   have hin:=HT.out.ins x (List.mem_of_getElem? hxm)
   have HX:=qH hx
   have HXM:=qH hxm
   have hlt':(k:Int)<L.length:=by omega
   have HIN:=qH hin
   have HAE:=qH hAe
   clear hx hxm hc hin hr1 hAe
   have hAe:=HAE.out
   subst hAe
   have hm:∀ w:World,(method 249 225 (.agg #[.int .i64 rf,.int .i64 rt]) "copyist/overs.ends").run Tryz.prog w=.ok (356,(.agg #[.int .i64 rf,.int .i64 rt])) w:=fun _=>by kernel_rfl
   have HCN:=qH (remEnds HIN.out rf rt (hp x (List.mem_of_getElem? HX.out)).1 (hp x (List.mem_of_getElem? HX.out)).2.1 (hp x (List.mem_of_getElem? HX.out)).2.2.1 (hp x (List.mem_of_getElem? HX.out)).2.2.2 h0 h1 h2)
   go_wp2_with fail
   refine HCN.out.mono ?_
   rintro e w1 ⟨rfl,hb⟩
   have T1:=HT.out.up hb
   have hin1:=HIN.out.up hb
   have z1:=hin1.fz 1
   have z2:=hin1.fz 2
   have q1:=hin1.cell 1 _ rfl
   have q2:=hin1.cell 2 _ rfl
   have hst:=T1.ends HXM.out ((fun x=>(backI x.f rf rt,backI x.t rf rt)) x).1 ((fun x=>(backI x.f rf rt,backI x.t rf rt)) x).2
   rw[show withEnds x ((fun x=>(backI x.f rf rt,backI x.t rf rt)) x).1 ((fun x=>(backI x.f rf rt,backI x.t rf rt)) x).2=endsX (fun x=>(backI x.f rf rt,backI x.t rf rt)) x from rfl,movedK_succ (fun x=>(backI x.f rf rt,backI x.t rf rt)) HX.out] at hst
   have HST:=qH hst
   have hgf:x.g ∈ footS b (.slice (some ⟨g,o,none⟩) L.length cp) L:=foot_x (List.mem_of_getElem? HX.out) (foot_g x)
   have HG:=qH hgf
   have HB:=qH hb
   clear T1 hin1 hst hgf hb k0
   go_wp2_with fail
   go_roundw
   case rel=>exact⟨k+1,by omega,by go_num,HST.out,((HON.out.trans (Only.of_below HB.out)).setCell (p:=⟨x.g,1,none⟩) HG.out _).setCell (p:=⟨x.g,2,none⟩) HG.out _⟩
   case measure=>simp[intOf];omega
  ·obtain rfl:k=L.length:=by omega
   go_wp2_with fail
   refine bodyPost_end (results_none rfl _ _ _) rfl ?_
   exact⟨rfl,by rw[<-movedK_all];exact HT.out,HON.out⟩
end
end Go.Proofs.YtkpoodjhjfmfjaaGreatDoor.Ovs
namespace Go.Proofs.YtkpoodjhjfmfjaaGreatDoor.Ovs
open Go.RowKit
section
variable {w w' : World} {x : OverE} {L L' M : List OverE} {b : Nat} {pr ev nx : Int} {v v' : Value} {A : Option Addr}
def insD (at_ n:Int) (x:OverD):OverD:=⟨x.id,insF at_ n x.f x.t x.fr x.re,insT at_ n x.f x.t x.fr x.re,x.fr,x.re,x.ps⟩
def insOk (D:List OverD) (at_ n:Int):Bool:=D.all (fun x=>placeI (insT at_ n x.f x.t x.fr x.re))
def insE (D:List OverD) (at_ n:Int):Int:=if placeI at_ then (if n<0\/65536<n then 2 else if insOk D at_ n then 0 else 3) else 3
def insertedD (D:List OverD) (at_ n:Int):List OverD:=if insE D at_ n=0 then D.map (insD at_ n) else D
theorem foot_map (u:OverE->Int × Int):footS b v (L.map (endsX u))=footS b v L:=by
 have:=movedK_foot u L L.length
 rw[movedK_all] at this
 unfold footS;rw[this]
set_option maxRecDepth 100000 in
set_option maxHeartbeats 1000000 in
theorem oins_main (h:OvsAt w b pr ev v L nx) (at_ n:Int) (hpl:placeI at_=true) (hn0:0<=n) (hn1:n<=65536) (hp:∀ x ∈ L,1<=x.f/\x.f<=1099511627776/\1<=x.t/\x.t<=1099511627776) (hl:L.length<=1000000) :
  Calls Tryz.prog 172 #[.pointer (some ⟨b,0,none⟩),.int .i64 at_,.int .i64 n] w (OPost w b pr ev v L (.int .i64 (if insOk (L.map OverE.dat) at_ n then 0 else 3)) (if insOk (L.map OverE.dat) at_ n then (L.map OverE.dat).map (insD at_ n) else L.map OverE.dat) nx):=by
 obtain⟨er,her⟩:∃ er:Int,er=(if insOk (L.map OverE.dat) at_ n then 0 else 3):=⟨_,rfl⟩
 obtain⟨Dn,hDn⟩:∃ Dn,Dn=(if insOk (L.map OverE.dat) at_ n then (L.map OverE.dat).map (insD at_ n) else L.map OverE.dat):=⟨_,rfl⟩
 rw[<-her,<-hDn]
 have HER:=qH her
 have HDN:=qH hDn
 clear her hDn
 obtain⟨A,cp,rfl,hA1,hA2,hAs⟩:=h.own.shape eltT
 have HV:=qH (ovalid h)
 have HPL:=qH (hpl▸place_any at_ w)
 have c2:=(h.up (below1 w (.cells #[.int .i64 at_,.int .i64 n] 232))).cell 2 _ rfl
 have H:=qH h
 have HAs:=qH hAs
 have HP:=qH hp
 have d1:decide (n<(0:Int))=false:=decide_eq_false (by omega)
 have d2:decide ((65536:Int)<n)=false:=decide_eq_false (by omega)
 have HN0:=qH hn0
 have HN1:=qH hn1
 clear h hAs hp hpl hn0 hn1
 go_enter Tryz.func172,Tryz.ntmps172
 go_wp2_with fail
 refine HV.out.mono ?_
 rintro e w0 ⟨rfl,rfl⟩
 go_wp2_with fail
 refine HPL.out.mono ?_
 rintro e w0 ⟨rfl,rfl⟩
 go_wp2_with fail
 clear c2
 go_loopw [35] (fun vi wr=>∃ k:Nat,k<=L.length/\vi=.int .i64 k/\(∀ j x,j<k->L[j]?=some x->placeI (insT at_ n x.f x.t x.fr x.re)=true)/\Below (w.heap.size+1) (w.alloc (.cells #[.int .i64 at_,.int .i64 n] 232)) wr) (fun vi _=>L.length -(intOf vi).toNat)
 case atStart=>exact⟨0,by omega,rfl,fun j x hj=>by omega,Below.refl _ _⟩
 case round=>
  obtain⟨k,hk,rfl,hno,hbel⟩:=hrel
  have hz:=hbel.size
  simp at hz
  have hbw:Below w.heap.size w wr:=(below1 w _).trans (hbel.mono (by omega))
  have k0:=hbel.cell (p:=⟨w.heap.size,0,none⟩) (by simp)
  have k1:=hbel.cell (p:=⟨w.heap.size,1,none⟩) (by simp)
  simp at k0 k1
  have HNO:=qH hno
  have HB:=qH hbel
  have HBW:=qH hbw
  clear hno hbel hbw
  by_cases hlt:k<L.length
  ·obtain⟨x,hx⟩:∃ x,L[k]?=some x:=⟨_,List.getElem?_eq_getElem hlt⟩
   obtain⟨g,o,hAe,hg,hc⟩:=(HAs.out.up HBW.out).at_ eltT hx
   have q0:=hc 0 _ rfl
   simp only[Nat.mul_one,Nat.add_zero] at q0
   have hxm:=List.mem_of_getElem? hx
   have hpx:=HP.out x hxm
   have HE:=qH (insEnds ((H.out.ins x hxm).up HBW.out) at_ n HN0.out HN1.out hpx.1 hpx.2.1 hpx.2.2.1 hpx.2.2.2)
   have HPT:=qH (fun w1=>place_any (insT at_ n x.f x.t x.fr x.re) w1)
   have HX:=qH hx
   have HXM:=qH hxm
   have hlt':(k:Int)<L.length:=by omega
   generalize insF at_ n x.f x.t x.fr x.re=y1 at HE
   subst hAe
   clear hc hx hxm hpx
   cases hpt:placeI (insT at_ n x.f x.t x.fr x.re) with
   | true=>
     simp only[hpt] at HPT
     have HPP:=qH hpt
     generalize insT at_ n x.f x.t x.fr x.re=y2 at HE HPT
     clear hpt
     go_wp2_with fail
     refine HE.out.mono ?_
     rintro e w1 ⟨rfl,hb⟩
     have HB1:=qH (HB.out.trans (hb.mono (by omega)))
     clear hb
     go_wp2_with fail
     refine(HPT.out _).mono ?_
     rintro e w2 ⟨rfl,rfl⟩
     go_wp2_with fail
     go_roundw
     case rel=>
      refine⟨k+1,by omega,by go_num,fun j z hj hz=>?_,HB1.out⟩
      rcases Nat.lt_or_ge j k with h1|h1
      ·exact HNO.out j z h1 hz
      ·obtain rfl:j=k:=by omega
       rw[HX.out] at hz;cases hz;exact HPP.out
     case measure=>simp[intOf];omega
   | false=>
     simp only[hpt] at HPT
     have HPP:=qH hpt
     generalize insT at_ n x.f x.t x.fr x.re=y2 at HE HPT
     clear hpt
     go_wp2_with fail
     refine HE.out.mono ?_
     rintro e w1 ⟨rfl,hb⟩
     have HB1:=qH (up2 HBW.out hb)
     clear hb
     go_wp2_with fail
     refine(HPT.out _).mono ?_
     rintro e w2 ⟨rfl,rfl⟩
     go_wp2_with fail
     go_ret
     have hf:insOk (L.map OverE.dat) at_ n=false:=by
      unfold insOk
      rw[List.all_eq_false]
      exact⟨x.dat,List.mem_map.2 ⟨x,HXM.out,rfl⟩,by rw[show placeI (insT at_ n x.dat.f x.dat.t x.dat.fr x.dat.re)=false from HPP.out];simp⟩
     rw[HER.out,HDN.out,hf,if_neg (by decide),if_neg (by decide)]
     exact OPost.same H.out HB1.out
  ·obtain rfl:k=L.length:=by omega
   have hT:insOk (L.map OverE.dat) at_ n=true:=by
    unfold insOk
    rw[List.all_eq_true]
    intro d hd
    obtain⟨x,hx,rfl⟩:=List.mem_map.1 hd
    obtain⟨j,hj,he⟩:=List.getElem_of_mem hx
    exact HNO.out j x hj (by rw[List.getElem?_eq_getElem hj,he])
   have HT:=qH hT
   have c2:=(H.out.up HBW.out).cell 2 _ rfl
   have HAP:=qH (apply_ins (H.out.up HBW.out) (at_:=at_) HN0.out HN1.out HP.out hl)
   clear hT
   go_wp2_with fail
   refine HAP.out.mono ?_
   rintro e w1 ⟨rfl,hs,hon⟩
   have HS:=qH hs
   have HON:=qH ((Only.of_below HBW.out).trans hon)
   clear hs hon
   go_wp2_with fail
   go_ret
   rw[HER.out,HDN.out,HT.out,if_pos rfl,if_pos rfl]
   exact⟨_,_,rfl,HS.out,by simp only[List.map_map];rfl,HON.out,fun k hk=>.inl (by rw[foot_map] at hk;exact hk)⟩
end
end Go.Proofs.YtkpoodjhjfmfjaaGreatDoor.Ovs
namespace Go.Proofs.YtkpoodjhjfmfjaaGreatDoor.Ovs
open Go.RowKit
section
variable {w w' : World} {x : OverE} {L L' M : List OverE} {b : Nat} {pr ev nx : Int} {v v' : Value} {A : Option Addr}
set_option maxHeartbeats 1000000 in
theorem oins_place (h:OvsAt w b pr ev v L nx) (at_ n:Int) (hpl:placeI at_=false) :
  Calls Tryz.prog 172 #[.pointer (some ⟨b,0,none⟩),.int .i64 at_,.int .i64 n] w (OPost w b pr ev v L (.int .i64 3) (L.map OverE.dat) nx):=by
 have HV:=qH (ovalid h)
 have HPL:=qH (hpl▸place_any at_ w)
 have H:=qH h
 clear h hpl
 go_enter Tryz.func172,Tryz.ntmps172
 go_wp2_with fail
 refine HV.out.mono ?_
 rintro e w0 ⟨rfl,rfl⟩
 go_wp2_with fail
 refine HPL.out.mono ?_
 rintro e w0 ⟨rfl,rfl⟩
 go_wp2_with fail
 go_ret
 exact OPost.same H.out (Below.refl _ _)
set_option maxHeartbeats 1000000 in
theorem oins_arg (h:OvsAt w b pr ev v L nx) (at_ n:Int) (hpl:placeI at_=true) (hn:n<0\/65536<n) :
  Calls Tryz.prog 172 #[.pointer (some ⟨b,0,none⟩),.int .i64 at_,.int .i64 n] w (OPost w b pr ev v L (.int .i64 2) (L.map OverE.dat) nx):=by
 have HV:=qH (ovalid h)
 have HPL:=qH (hpl▸place_any at_ w)
 have H:=qH h
 clear h hpl
 by_cases h0:n<0
 ·have d1:decide (n<(0:Int))=true:=decide_eq_true h0
  clear h0 hn
  go_enter Tryz.func172,Tryz.ntmps172
  go_wp2_with fail
  refine HV.out.mono ?_
  rintro e w0 ⟨rfl,rfl⟩
  go_wp2_with fail
  refine HPL.out.mono ?_
  rintro e w0 ⟨rfl,rfl⟩
  go_wp2_with fail
  go_ret
  exact OPost.same H.out (Below.refl _ _)
 ·have d1:decide (n<(0:Int))=false:=decide_eq_false h0
  have d2:decide ((65536:Int)<n)=true:=decide_eq_true (by omega)
  clear h0 hn
  go_enter Tryz.func172,Tryz.ntmps172
  go_wp2_with fail
  refine HV.out.mono ?_
  rintro e w0 ⟨rfl,rfl⟩
  go_wp2_with fail
  refine HPL.out.mono ?_
  rintro e w0 ⟨rfl,rfl⟩
  go_wp2_with fail
  go_ret
  exact OPost.same H.out (Below.refl _ _)
theorem oinserted (h:OvsAt w b pr ev v L nx) (at_ n:Int) (hp:∀ x ∈ L,1<=x.f/\x.f<=1099511627776/\1<=x.t/\x.t<=1099511627776) (hl:L.length<=1000000) :
  Calls Tryz.prog 172 #[.pointer (some ⟨b,0,none⟩),.int .i64 at_,.int .i64 n] w (OPost w b pr ev v L (.int .i64 (insE (L.map OverE.dat) at_ n)) (insertedD (L.map OverE.dat) at_ n) nx):=by
 unfold insertedD insE
 cases hpl:placeI at_ with
 | false=>exact oins_place h at_ n hpl
 | true=>
   by_cases hn:n<0\/65536<n
   ·simp only[hn,if_true];exact oins_arg h at_ n hpl hn
   ·simp only[hn,if_true,if_false]
    have:=oins_main h at_ n hpl (by omega) (by omega) hp hl
    cases hok:insOk (L.map OverE.dat) at_ n with
    | true=>rw[hok] at this;exact this
    | false=>rw[hok] at this;exact this
end
end Go.Proofs.YtkpoodjhjfmfjaaGreatDoor.Ovs
namespace Go.Proofs.YtkpoodjhjfmfjaaGreatDoor.Ovs
open Go.RowKit
abbrev encI (z:Int):List Value:=[.int .i64 z]
theorem eltI:Elt encI 78 3 1 8 (.int .i64 0):=⟨Tryz.underlying78,by kernel_rfl,rfl,by omega,fun _=>rfl,fun x u hu=>by simp at hu;subst hu;rfl⟩
section
variable {w w' : World} {x : OverE} {L L' M : List OverE} {b : Nat} {pr ev nx : Int} {v v' : Value} {A : Option Addr}
end
end Go.Proofs.YtkpoodjhjfmfjaaGreatDoor.Ovs
namespace Go.Proofs.YtkpoodjhjfmfjaaGreatDoor.Ovs
open Go.RowKit
section
variable {w w' : World} {x : OverE}
end
end Go.Proofs.YtkpoodjhjfmfjaaGreatDoor.Ovs
namespace Go.Proofs.YtkpoodjhjfmfjaaGreatDoor.Ovs
open Go.RowKit
section
variable {w w' : World} {x : OverE} {b : Nat}
end
end Go.Proofs.YtkpoodjhjfmfjaaGreatDoor.Ovs
namespace Go.Proofs.YtkpoodjhjfmfjaaGreatDoor.Ovs
open Go.RowKit
section
variable {w w' : World} {x y : OverE} {b : Nat} {A : Option Addr}
structure UpD (N:Nat) (w0:World) where
 w:World
 up:BelD N w0 w
instance UpD.some (N:Nat) (w0:World):Nonempty (UpD N w0):=⟨⟨w0,BelD.refl N w0⟩⟩
end
end Go.Proofs.YtkpoodjhjfmfjaaGreatDoor.Ovs
namespace Go.Proofs.YtkpoodjhjfmfjaaGreatDoor.Ovs
open Go.RowKit
section
variable {w w' : World} {x : OverE} {L L' : List OverE} {b : Nat} {pr ev nx : Int} {v v' : Value} {A : Option Addr} {ps : List PropE}
end
end Go.Proofs.YtkpoodjhjfmfjaaGreatDoor.Ovs
namespace Go.Proofs.YtkpoodjhjfmfjaaGreatDoor.Ovs
open Go.RowKit
theorem mapBT:Tryz.prog.underlying 222=some (.map 3 4):=Tryz.underlying222
theorem keyT:Tryz.prog.underlying 3=some (.int .i64):=Tryz.underlying3
section
variable {w w' : World} {x : OverE} {L L' M : List OverE} {b : Nat} {pr ev nx : Int} {v v' : Value} {A : Option Addr} {m : List (Int × Bool)}
theorem neqW (k n:Int) (w:World):(binOp .neq 31 (.agg #[.int .i64 k,.int .i64 n]) (.agg #[.int .i64 1,.int .i64 0])).run Tryz.prog w=.ok (.bool (!(k == 1 && n == 0))) w:=by
 by_cases h1:k=1<;>by_cases h2:n=0<;>simp[go_sem,h1,h2]
def goesB (was:Bool) (ev:Int) (x:OverD):Bool:=!was && (x.f == x.t && match valP x.ps ev with|some (k,n)=>!(k == 1 && n == 0)|none=>false)
abbrev encB (u:Bool):Value:=.bool u
structure DelSt (w:World) (b bm qo qm qg B:Nat) (ev:Int) (m:List (Int × Bool)) (gv:Value) (ids:List Int):Prop where
 co:w.cell? ⟨qo,0,none⟩=some (.pointer (some ⟨b,0,none⟩))
 cm:w.cell? ⟨qm,0,none⟩=some (.map (some bm))
 cg:w.cell? ⟨qg,0,none⟩=some gv
 fg:w.frozen? ⟨qg,0,none⟩=false
 ce:w.cell? ⟨b,1,none⟩=some (.int .i64 ev)
 im:IM w bm encB m
 own:ROwn encI 3 1 B w gv ids
 gB:qg<B
 lo:qo<qg/\qm<qg/\bm<qg/\b<qg
 hB:B<=w.heap.size
theorem DelSt.kept {bm qo qm qg B:Nat} {gv:Value} {ids:List Int} (h:DelSt w b bm qo qm qg B ev m gv ids) (hz:w.heap.size<=w'.heap.size) (hk:∀ k,k<w.heap.size->k<=qg\/gv.ownBlock=some k->(k=qo\/k=qm\/k=qg\/k=bm\/k=b\/gv.ownBlock=some k)->w'.heap[k]?=w.heap[k]?):DelSt w' b bm qo qm qg B ev m gv ids:=by
 obtain⟨l1,l2,l3,l4⟩:=h.lo
 have hg:=h.gB
 have hB:=h.hB
 have a1:=hk qo (by omega) (.inl (by omega)) (by simp)
 have a2:=hk qm (by omega) (.inl (by omega)) (by simp)
 have a3:=hk qg (by omega) (.inl (by omega)) (by simp)
 have a4:=hk bm (by omega) (.inl (by omega)) (by simp)
 have a5:=hk b (by omega) (.inl (by omega)) (by simp)
 exact⟨(World.cell?_of_block (w:=w) (a:=⟨qo,0,none⟩) a1).trans h.co,(World.cell?_of_block (w:=w) (a:=⟨qm,0,none⟩) a2).trans h.cm,(World.cell?_of_block (w:=w) (a:=⟨qg,0,none⟩) a3).trans h.cg,(World.frozen?_of_block (w:=w) (a:=⟨qg,0,none⟩) a3).trans h.fg,(World.cell?_of_block (w:=w) (a:=⟨b,1,none⟩) a5).trans h.ce,h.im.kept a4,h.own.kept fun g hg'=>hk g (h.own.lt hg') (.inr hg') (.inr (.inr (.inr (.inr (.inr hg'))))),hg,h.lo,Nat.le_trans hB hz⟩
theorem DelSt.up {bm qo qm qg B:Nat} {gv:Value} {ids:List Int} (h:DelSt w b bm qo qm qg B ev m gv ids) (hb:Below w.heap.size w w'):DelSt w' b bm qo qm qg B ev m gv ids:=h.kept hb.size fun k hk _ _=>hb.block k hk
def DelC (w:World) (b bm qo qm qg B:Nat) (ev:Int) (m:List (Int × Bool)) (gv:Value) (ids:List Int) (r:Bool) (ids':List Int) (e:Ending) (w':World):Prop:=
 e=.returned (.bool r)/\∃ gv',DelSt w' b bm qo qm qg B ev m gv' ids'/\Only (fun k=>k=qg\/gv.ownBlock=some k) w w'
theorem look_at {W W1:World} {bm:Nat} {id:Int} {was:Bool} (h:IM W bm encB m) (hw:lookM m id=some was) (he:W1.heap[bm]?=W.heap[bm]?):(Instr.lookup 222 (.map (some bm)) (.int .i64 id) false).run Tryz.prog W1=.ok (.bool was) W1:=by
 have:=(h.kept he).look_some (P:=Tryz.prog) mapBT keyT hw false
 simpa using this
set_option maxRecDepth 100000 in
set_option maxHeartbeats 1000000 in
theorem delC_a {bm qo qm qg B:Nat} {gv:Value} {ids:List Int} (h:DelSt w b bm qo qm qg B ev m gv ids) (hx:OverIn w x) (hs:SortedP x.ps) (hl:x.ps.length<=1000000) (hval:valP x.ps ev=none) (hw:lookM m x.id=some true)  :
  Calls Tryz.prog 230 #[.pointer (some ⟨x.g,0,none⟩),.pointer (some ⟨qo,0,none⟩),.pointer (some ⟨qm,0,none⟩),.pointer (some ⟨qg,0,none⟩)] w (DelC w b bm qo qm qg B ev m gv ids false ids):=by
 have co:=h.co
 have ce:=h.ce
 have HV:=qH (value_any hx hs ev hl)
 rw[hval] at HV
 have H:=qH h
 have HX:=qH hx
 have HW:=qH hw
 clear h hx hw hs hl hval
 simp only[wordV] at HV
 go_enter Tryz.func230,Tryz.ntmps230
 go_wp2_with fail
 refine HV.out.mono ?_
 rintro e w1 ⟨rfl,hb⟩
 have HB:=qH hb
 clear hb co ce
 go_wp2_with fail
 have hbW:=up2 HB.out (below1 w1 (.cells #[.int .i64 0,.int .i64 0] 31))
 have HBW:=qH hbW
 have hst:=H.out.up hbW
 have hx1:=HX.out.up hbW
 have al:=(MapKept.heap_alloc w1 (.cells #[.int .i64 0,.int .i64 0] 31)).1
 have az:(w1.alloc (.cells #[.int .i64 0,.int .i64 0] 31)).heap.size=w1.heap.size+1:=by simp
 generalize w1.alloc (.cells #[.int .i64 0,.int .i64 0] 31)=W at *
 have CM:∀ y:UpW W.heap.size W,y.w.cell? ⟨qm,0,none⟩=some (.map (some bm)):=fun y=>(hst.up y.up).cm
 have LK:∀ y:UpW W.heap.size W,(Instr.lookup 222 (.map (some bm)) (.int .i64 x.id) false).run Tryz.prog y.w=.ok (.bool true) y.w:=fun y=>look_at hst.im HW.out (y.up.block bm hst.im.lt)
 have X0:∀ y:UpW W.heap.size W,y.w.cell? ⟨x.g,0,none⟩=some (.int .i64 x.id):=fun y=>(hx1.up y.up).cell 0 _ rfl
 have X1:∀ y:UpW W.heap.size W,y.w.cell? ⟨x.g,1,none⟩=some (.int .i64 x.f):=fun y=>(hx1.up y.up).cell 1 _ rfl
 have X2:∀ y:UpW W.heap.size W,y.w.cell? ⟨x.g,2,none⟩=some (.int .i64 x.t):=fun y=>(hx1.up y.up).cell 2 _ rfl
 have T0:∀ y:UpW W.heap.size W,y.w.cell? ⟨w1.heap.size,0,none⟩=some (.int .i64 0):=fun y=>(y.up.cell (p:=⟨w1.heap.size,0,none⟩) (by show w1.heap.size<W.heap.size;omega)).trans (by simp only[World.cell?,al];rfl)
 have T1:∀ y:UpW W.heap.size W,y.w.cell? ⟨w1.heap.size,1,none⟩=some (.int .i64 0):=fun y=>(y.up.cell (p:=⟨w1.heap.size,1,none⟩) (by show w1.heap.size<W.heap.size;omega)).trans (by simp only[World.cell?,al];rfl)
 have NW:=neqW 0 0
 have HST:=qH hst
 have HX1:=qH hx1
 clear hst hx1 al az hbW
 refine wp_region_up W.heap.size (by kernel_rfl) (by kernel_rfl) ?_
 repeat (go_big_quiet_step (fail))
 refine wpQuiet_nil ?_
 rintro ⟨w2,hb2⟩
 dsimp only
 clear CM LK X0 X1 X2 T0 T1 NW
 go_wp2_with fail
 go_ret
 exact⟨rfl,_,(HST.out.up hb2),(Only.of_below HBW.out).trans (Only.of_below hb2)⟩
set_option maxRecDepth 100000 in
set_option maxHeartbeats 1000000 in
theorem delC_b {bm qo qm qg B:Nat} {gv:Value} {ids:List Int} (h:DelSt w b bm qo qm qg B ev m gv ids) (hx:OverIn w x) (hs:SortedP x.ps) (hl:x.ps.length<=1000000) (hval:valP x.ps ev=none) (hw:lookM m x.id=some false) (hft:(x.f == x.t)=false) :
  Calls Tryz.prog 230 #[.pointer (some ⟨x.g,0,none⟩),.pointer (some ⟨qo,0,none⟩),.pointer (some ⟨qm,0,none⟩),.pointer (some ⟨qg,0,none⟩)] w (DelC w b bm qo qm qg B ev m gv ids false ids):=by
 have co:=h.co
 have ce:=h.ce
 have HV:=qH (value_any hx hs ev hl)
 rw[hval] at HV
 have H:=qH h
 have HX:=qH hx
 have HW:=qH hw
 clear h hx hw hs hl hval
 simp only[wordV] at HV
 go_enter Tryz.func230,Tryz.ntmps230
 go_wp2_with fail
 refine HV.out.mono ?_
 rintro e w1 ⟨rfl,hb⟩
 have HB:=qH hb
 clear hb co ce
 go_wp2_with fail
 have hbW:=up2 HB.out (below1 w1 (.cells #[.int .i64 0,.int .i64 0] 31))
 have HBW:=qH hbW
 have hst:=H.out.up hbW
 have hx1:=HX.out.up hbW
 have al:=(MapKept.heap_alloc w1 (.cells #[.int .i64 0,.int .i64 0] 31)).1
 have az:(w1.alloc (.cells #[.int .i64 0,.int .i64 0] 31)).heap.size=w1.heap.size+1:=by simp
 generalize w1.alloc (.cells #[.int .i64 0,.int .i64 0] 31)=W at *
 have CM:∀ y:UpW W.heap.size W,y.w.cell? ⟨qm,0,none⟩=some (.map (some bm)):=fun y=>(hst.up y.up).cm
 have LK:∀ y:UpW W.heap.size W,(Instr.lookup 222 (.map (some bm)) (.int .i64 x.id) false).run Tryz.prog y.w=.ok (.bool false) y.w:=fun y=>look_at hst.im HW.out (y.up.block bm hst.im.lt)
 have X0:∀ y:UpW W.heap.size W,y.w.cell? ⟨x.g,0,none⟩=some (.int .i64 x.id):=fun y=>(hx1.up y.up).cell 0 _ rfl
 have X1:∀ y:UpW W.heap.size W,y.w.cell? ⟨x.g,1,none⟩=some (.int .i64 x.f):=fun y=>(hx1.up y.up).cell 1 _ rfl
 have X2:∀ y:UpW W.heap.size W,y.w.cell? ⟨x.g,2,none⟩=some (.int .i64 x.t):=fun y=>(hx1.up y.up).cell 2 _ rfl
 have T0:∀ y:UpW W.heap.size W,y.w.cell? ⟨w1.heap.size,0,none⟩=some (.int .i64 0):=fun y=>(y.up.cell (p:=⟨w1.heap.size,0,none⟩) (by show w1.heap.size<W.heap.size;omega)).trans (by simp only[World.cell?,al];rfl)
 have T1:∀ y:UpW W.heap.size W,y.w.cell? ⟨w1.heap.size,1,none⟩=some (.int .i64 0):=fun y=>(y.up.cell (p:=⟨w1.heap.size,1,none⟩) (by show w1.heap.size<W.heap.size;omega)).trans (by simp only[World.cell?,al];rfl)
 have NW:=neqW 0 0
 have HST:=qH hst
 have HX1:=qH hx1
 clear hst hx1 al az hbW
 refine wp_region_up W.heap.size (by kernel_rfl) (by kernel_rfl) ?_
 repeat (go_big_quiet_step (fail))
 refine wpQuiet_nil ?_
 rintro ⟨w2,hb2⟩
 dsimp only
 clear CM LK X0 X1 X2 T0 T1 NW
 go_wp2_with fail
 go_ret
 exact⟨rfl,_,(HST.out.up hb2),(Only.of_below HBW.out).trans (Only.of_below hb2)⟩
set_option maxRecDepth 100000 in
set_option maxHeartbeats 1000000 in
theorem delC_c {bm qo qm qg B:Nat} {gv:Value} {ids:List Int} (h:DelSt w b bm qo qm qg B ev m gv ids) (hx:OverIn w x) (hs:SortedP x.ps) (hl:x.ps.length<=1000000) (hval:valP x.ps ev=none) (hw:lookM m x.id=some false) (hft:(x.f == x.t)=true) :
  Calls Tryz.prog 230 #[.pointer (some ⟨x.g,0,none⟩),.pointer (some ⟨qo,0,none⟩),.pointer (some ⟨qm,0,none⟩),.pointer (some ⟨qg,0,none⟩)] w (DelC w b bm qo qm qg B ev m gv ids false ids):=by
 have co:=h.co
 have ce:=h.ce
 have HV:=qH (value_any hx hs ev hl)
 rw[hval] at HV
 have H:=qH h
 have HX:=qH hx
 have HW:=qH hw
 clear h hx hw hs hl hval
 simp only[wordV] at HV
 go_enter Tryz.func230,Tryz.ntmps230
 go_wp2_with fail
 refine HV.out.mono ?_
 rintro e w1 ⟨rfl,hb⟩
 have HB:=qH hb
 clear hb co ce
 go_wp2_with fail
 have hbW:=up2 HB.out (below1 w1 (.cells #[.int .i64 0,.int .i64 0] 31))
 have HBW:=qH hbW
 have hst:=H.out.up hbW
 have hx1:=HX.out.up hbW
 have al:=(MapKept.heap_alloc w1 (.cells #[.int .i64 0,.int .i64 0] 31)).1
 have az:(w1.alloc (.cells #[.int .i64 0,.int .i64 0] 31)).heap.size=w1.heap.size+1:=by simp
 generalize w1.alloc (.cells #[.int .i64 0,.int .i64 0] 31)=W at *
 have CM:∀ y:UpW W.heap.size W,y.w.cell? ⟨qm,0,none⟩=some (.map (some bm)):=fun y=>(hst.up y.up).cm
 have LK:∀ y:UpW W.heap.size W,(Instr.lookup 222 (.map (some bm)) (.int .i64 x.id) false).run Tryz.prog y.w=.ok (.bool false) y.w:=fun y=>look_at hst.im HW.out (y.up.block bm hst.im.lt)
 have X0:∀ y:UpW W.heap.size W,y.w.cell? ⟨x.g,0,none⟩=some (.int .i64 x.id):=fun y=>(hx1.up y.up).cell 0 _ rfl
 have X1:∀ y:UpW W.heap.size W,y.w.cell? ⟨x.g,1,none⟩=some (.int .i64 x.f):=fun y=>(hx1.up y.up).cell 1 _ rfl
 have X2:∀ y:UpW W.heap.size W,y.w.cell? ⟨x.g,2,none⟩=some (.int .i64 x.t):=fun y=>(hx1.up y.up).cell 2 _ rfl
 have T0:∀ y:UpW W.heap.size W,y.w.cell? ⟨w1.heap.size,0,none⟩=some (.int .i64 0):=fun y=>(y.up.cell (p:=⟨w1.heap.size,0,none⟩) (by show w1.heap.size<W.heap.size;omega)).trans (by simp only[World.cell?,al];rfl)
 have T1:∀ y:UpW W.heap.size W,y.w.cell? ⟨w1.heap.size,1,none⟩=some (.int .i64 0):=fun y=>(y.up.cell (p:=⟨w1.heap.size,1,none⟩) (by show w1.heap.size<W.heap.size;omega)).trans (by simp only[World.cell?,al];rfl)
 have NW:=neqW 0 0
 have HST:=qH hst
 have HX1:=qH hx1
 clear hst hx1 al az hbW
 refine wp_region_up W.heap.size (by kernel_rfl) (by kernel_rfl) ?_
 repeat (go_big_quiet_step (fail))
 refine wpQuiet_nil ?_
 rintro ⟨w2,hb2⟩
 dsimp only
 clear CM LK X0 X1 X2 T0 T1 NW
 go_wp2_with fail
 go_ret
 exact⟨rfl,_,(HST.out.up hb2),(Only.of_below HBW.out).trans (Only.of_below hb2)⟩
set_option maxRecDepth 100000 in
set_option maxHeartbeats 1000000 in
theorem delC_d {bm qo qm qg B:Nat} {gv:Value} {ids:List Int} {k n:Int} (h:DelSt w b bm qo qm qg B ev m gv ids) (hx:OverIn w x) (hs:SortedP x.ps) (hl:x.ps.length<=1000000) (hval:valP x.ps ev=some (k,n)) (hw:lookM m x.id=some true)  :
  Calls Tryz.prog 230 #[.pointer (some ⟨x.g,0,none⟩),.pointer (some ⟨qo,0,none⟩),.pointer (some ⟨qm,0,none⟩),.pointer (some ⟨qg,0,none⟩)] w (DelC w b bm qo qm qg B ev m gv ids false ids):=by
 have co:=h.co
 have ce:=h.ce
 have HV:=qH (value_any hx hs ev hl)
 rw[hval] at HV
 have H:=qH h
 have HX:=qH hx
 have HW:=qH hw
 clear h hx hw hs hl hval
 simp only[wordV] at HV
 go_enter Tryz.func230,Tryz.ntmps230
 go_wp2_with fail
 refine HV.out.mono ?_
 rintro e w1 ⟨rfl,hb⟩
 have HB:=qH hb
 clear hb co ce
 go_wp2_with fail
 have hbW:=up2 HB.out (below1 w1 (.cells #[.int .i64 k,.int .i64 n] 31))
 have HBW:=qH hbW
 have hst:=H.out.up hbW
 have hx1:=HX.out.up hbW
 have al:=(MapKept.heap_alloc w1 (.cells #[.int .i64 k,.int .i64 n] 31)).1
 have az:(w1.alloc (.cells #[.int .i64 k,.int .i64 n] 31)).heap.size=w1.heap.size+1:=by simp
 generalize w1.alloc (.cells #[.int .i64 k,.int .i64 n] 31)=W at *
 have CM:∀ y:UpW W.heap.size W,y.w.cell? ⟨qm,0,none⟩=some (.map (some bm)):=fun y=>(hst.up y.up).cm
 have LK:∀ y:UpW W.heap.size W,(Instr.lookup 222 (.map (some bm)) (.int .i64 x.id) false).run Tryz.prog y.w=.ok (.bool true) y.w:=fun y=>look_at hst.im HW.out (y.up.block bm hst.im.lt)
 have X0:∀ y:UpW W.heap.size W,y.w.cell? ⟨x.g,0,none⟩=some (.int .i64 x.id):=fun y=>(hx1.up y.up).cell 0 _ rfl
 have X1:∀ y:UpW W.heap.size W,y.w.cell? ⟨x.g,1,none⟩=some (.int .i64 x.f):=fun y=>(hx1.up y.up).cell 1 _ rfl
 have X2:∀ y:UpW W.heap.size W,y.w.cell? ⟨x.g,2,none⟩=some (.int .i64 x.t):=fun y=>(hx1.up y.up).cell 2 _ rfl
 have T0:∀ y:UpW W.heap.size W,y.w.cell? ⟨w1.heap.size,0,none⟩=some (.int .i64 k):=fun y=>(y.up.cell (p:=⟨w1.heap.size,0,none⟩) (by show w1.heap.size<W.heap.size;omega)).trans (by simp only[World.cell?,al];rfl)
 have T1:∀ y:UpW W.heap.size W,y.w.cell? ⟨w1.heap.size,1,none⟩=some (.int .i64 n):=fun y=>(y.up.cell (p:=⟨w1.heap.size,1,none⟩) (by show w1.heap.size<W.heap.size;omega)).trans (by simp only[World.cell?,al];rfl)
 have NW:=neqW k n
 have HST:=qH hst
 have HX1:=qH hx1
 clear hst hx1 al az hbW
 refine wp_region_up W.heap.size (by kernel_rfl) (by kernel_rfl) ?_
 repeat (go_big_quiet_step (fail))
 refine wpQuiet_nil ?_
 rintro ⟨w2,hb2⟩
 dsimp only
 clear CM LK X0 X1 X2 T0 T1 NW
 go_wp2_with fail
 go_ret
 exact⟨rfl,_,(HST.out.up hb2),(Only.of_below HBW.out).trans (Only.of_below hb2)⟩
set_option maxRecDepth 100000 in
set_option maxHeartbeats 1000000 in
theorem delC_e {bm qo qm qg B:Nat} {gv:Value} {ids:List Int} {k n:Int} (h:DelSt w b bm qo qm qg B ev m gv ids) (hx:OverIn w x) (hs:SortedP x.ps) (hl:x.ps.length<=1000000) (hval:valP x.ps ev=some (k,n)) (hw:lookM m x.id=some false) (hft:(x.f == x.t)=false) :
  Calls Tryz.prog 230 #[.pointer (some ⟨x.g,0,none⟩),.pointer (some ⟨qo,0,none⟩),.pointer (some ⟨qm,0,none⟩),.pointer (some ⟨qg,0,none⟩)] w (DelC w b bm qo qm qg B ev m gv ids false ids):=by
 have co:=h.co
 have ce:=h.ce
 have HV:=qH (value_any hx hs ev hl)
 rw[hval] at HV
 have H:=qH h
 have HX:=qH hx
 have HW:=qH hw
 clear h hx hw hs hl hval
 simp only[wordV] at HV
 go_enter Tryz.func230,Tryz.ntmps230
 go_wp2_with fail
 refine HV.out.mono ?_
 rintro e w1 ⟨rfl,hb⟩
 have HB:=qH hb
 clear hb co ce
 go_wp2_with fail
 have hbW:=up2 HB.out (below1 w1 (.cells #[.int .i64 k,.int .i64 n] 31))
 have HBW:=qH hbW
 have hst:=H.out.up hbW
 have hx1:=HX.out.up hbW
 have al:=(MapKept.heap_alloc w1 (.cells #[.int .i64 k,.int .i64 n] 31)).1
 have az:(w1.alloc (.cells #[.int .i64 k,.int .i64 n] 31)).heap.size=w1.heap.size+1:=by simp
 generalize w1.alloc (.cells #[.int .i64 k,.int .i64 n] 31)=W at *
 have CM:∀ y:UpW W.heap.size W,y.w.cell? ⟨qm,0,none⟩=some (.map (some bm)):=fun y=>(hst.up y.up).cm
 have LK:∀ y:UpW W.heap.size W,(Instr.lookup 222 (.map (some bm)) (.int .i64 x.id) false).run Tryz.prog y.w=.ok (.bool false) y.w:=fun y=>look_at hst.im HW.out (y.up.block bm hst.im.lt)
 have X0:∀ y:UpW W.heap.size W,y.w.cell? ⟨x.g,0,none⟩=some (.int .i64 x.id):=fun y=>(hx1.up y.up).cell 0 _ rfl
 have X1:∀ y:UpW W.heap.size W,y.w.cell? ⟨x.g,1,none⟩=some (.int .i64 x.f):=fun y=>(hx1.up y.up).cell 1 _ rfl
 have X2:∀ y:UpW W.heap.size W,y.w.cell? ⟨x.g,2,none⟩=some (.int .i64 x.t):=fun y=>(hx1.up y.up).cell 2 _ rfl
 have T0:∀ y:UpW W.heap.size W,y.w.cell? ⟨w1.heap.size,0,none⟩=some (.int .i64 k):=fun y=>(y.up.cell (p:=⟨w1.heap.size,0,none⟩) (by show w1.heap.size<W.heap.size;omega)).trans (by simp only[World.cell?,al];rfl)
 have T1:∀ y:UpW W.heap.size W,y.w.cell? ⟨w1.heap.size,1,none⟩=some (.int .i64 n):=fun y=>(y.up.cell (p:=⟨w1.heap.size,1,none⟩) (by show w1.heap.size<W.heap.size;omega)).trans (by simp only[World.cell?,al];rfl)
 have NW:=neqW k n
 have HST:=qH hst
 have HX1:=qH hx1
 clear hst hx1 al az hbW
 refine wp_region_up W.heap.size (by kernel_rfl) (by kernel_rfl) ?_
 repeat (go_big_quiet_step (fail))
 refine wpQuiet_nil ?_
 rintro ⟨w2,hb2⟩
 dsimp only
 clear CM LK X0 X1 X2 T0 T1 NW
 go_wp2_with fail
 go_ret
 exact⟨rfl,_,(HST.out.up hb2),(Only.of_below HBW.out).trans (Only.of_below hb2)⟩
set_option maxRecDepth 100000 in
set_option maxHeartbeats 1000000 in
theorem delC_f {bm qo qm qg B:Nat} {gv:Value} {ids:List Int} {k n:Int} (h:DelSt w b bm qo qm qg B ev m gv ids) (hx:OverIn w x) (hs:SortedP x.ps) (hl:x.ps.length<=1000000) (hval:valP x.ps ev=some (k,n)) (hw:lookM m x.id=some false) (hft:(x.f == x.t)=true) (hkn:(k == 1 && n == 0)=true) :
  Calls Tryz.prog 230 #[.pointer (some ⟨x.g,0,none⟩),.pointer (some ⟨qo,0,none⟩),.pointer (some ⟨qm,0,none⟩),.pointer (some ⟨qg,0,none⟩)] w (DelC w b bm qo qm qg B ev m gv ids false ids):=by
 have co:=h.co
 have ce:=h.ce
 have HV:=qH (value_any hx hs ev hl)
 rw[hval] at HV
 have H:=qH h
 have HX:=qH hx
 have HW:=qH hw
 clear h hx hw hs hl hval
 simp only[wordV] at HV
 go_enter Tryz.func230,Tryz.ntmps230
 go_wp2_with fail
 refine HV.out.mono ?_
 rintro e w1 ⟨rfl,hb⟩
 have HB:=qH hb
 clear hb co ce
 go_wp2_with fail
 have hbW:=up2 HB.out (below1 w1 (.cells #[.int .i64 k,.int .i64 n] 31))
 have HBW:=qH hbW
 have hst:=H.out.up hbW
 have hx1:=HX.out.up hbW
 have al:=(MapKept.heap_alloc w1 (.cells #[.int .i64 k,.int .i64 n] 31)).1
 have az:(w1.alloc (.cells #[.int .i64 k,.int .i64 n] 31)).heap.size=w1.heap.size+1:=by simp
 generalize w1.alloc (.cells #[.int .i64 k,.int .i64 n] 31)=W at *
 have CM:∀ y:UpW W.heap.size W,y.w.cell? ⟨qm,0,none⟩=some (.map (some bm)):=fun y=>(hst.up y.up).cm
 have LK:∀ y:UpW W.heap.size W,(Instr.lookup 222 (.map (some bm)) (.int .i64 x.id) false).run Tryz.prog y.w=.ok (.bool false) y.w:=fun y=>look_at hst.im HW.out (y.up.block bm hst.im.lt)
 have X0:∀ y:UpW W.heap.size W,y.w.cell? ⟨x.g,0,none⟩=some (.int .i64 x.id):=fun y=>(hx1.up y.up).cell 0 _ rfl
 have X1:∀ y:UpW W.heap.size W,y.w.cell? ⟨x.g,1,none⟩=some (.int .i64 x.f):=fun y=>(hx1.up y.up).cell 1 _ rfl
 have X2:∀ y:UpW W.heap.size W,y.w.cell? ⟨x.g,2,none⟩=some (.int .i64 x.t):=fun y=>(hx1.up y.up).cell 2 _ rfl
 have T0:∀ y:UpW W.heap.size W,y.w.cell? ⟨w1.heap.size,0,none⟩=some (.int .i64 k):=fun y=>(y.up.cell (p:=⟨w1.heap.size,0,none⟩) (by show w1.heap.size<W.heap.size;omega)).trans (by simp only[World.cell?,al];rfl)
 have T1:∀ y:UpW W.heap.size W,y.w.cell? ⟨w1.heap.size,1,none⟩=some (.int .i64 n):=fun y=>(y.up.cell (p:=⟨w1.heap.size,1,none⟩) (by show w1.heap.size<W.heap.size;omega)).trans (by simp only[World.cell?,al];rfl)
 have NW:=neqW k n
 have HST:=qH hst
 have HX1:=qH hx1
 clear hst hx1 al az hbW
 refine wp_region_up W.heap.size (by kernel_rfl) (by kernel_rfl) ?_
 repeat (go_big_quiet_step (fail))
 refine wpQuiet_nil ?_
 rintro ⟨w2,hb2⟩
 dsimp only
 clear CM LK X0 X1 X2 T0 T1 NW
 go_wp2_with fail
 go_ret
 exact⟨rfl,_,(HST.out.up hb2),(Only.of_below HBW.out).trans (Only.of_below hb2)⟩
set_option maxRecDepth 100000 in
set_option maxHeartbeats 1000000 in
theorem delC_g {bm qo qm qg B:Nat} {gv:Value} {ids:List Int} {k n:Int} (h:DelSt w b bm qo qm qg B ev m gv ids) (hx:OverIn w x) (hs:SortedP x.ps) (hl:x.ps.length<=1000000) (hval:valP x.ps ev=some (k,n)) (hw:lookM m x.id=some false) (hft:(x.f == x.t)=true) (hkn:(k == 1 && n == 0)=false) (hxB:x.g<B) (hil:ids.length<=1000000) :
  Calls Tryz.prog 230 #[.pointer (some ⟨x.g,0,none⟩),.pointer (some ⟨qo,0,none⟩),.pointer (some ⟨qm,0,none⟩),.pointer (some ⟨qg,0,none⟩)] w (DelC w b bm qo qm qg B ev m gv ids true (ids++[x.id])):=by
 have co:=h.co
 have ce:=h.ce
 have HV:=qH (value_any hx hs ev hl)
 rw[hval] at HV
 have H:=qH h
 have HX:=qH hx
 have HW:=qH hw
 clear h hx hw hs hl hval
 simp only[wordV] at HV
 go_enter Tryz.func230,Tryz.ntmps230
 go_wp2_with fail
 refine HV.out.mono ?_
 rintro e w1 ⟨rfl,hb⟩
 have HB:=qH hb
 clear hb co ce
 go_wp2_with fail
 have hbW:=up2 HB.out (below1 w1 (.cells #[.int .i64 k,.int .i64 n] 31))
 have HBW:=qH hbW
 have hst:=H.out.up hbW
 have hx1:=HX.out.up hbW
 have al:=(MapKept.heap_alloc w1 (.cells #[.int .i64 k,.int .i64 n] 31)).1
 have az:(w1.alloc (.cells #[.int .i64 k,.int .i64 n] 31)).heap.size=w1.heap.size+1:=by simp
 generalize w1.alloc (.cells #[.int .i64 k,.int .i64 n] 31)=W at *
 have CM:∀ y:UpW W.heap.size W,y.w.cell? ⟨qm,0,none⟩=some (.map (some bm)):=fun y=>(hst.up y.up).cm
 have LK:∀ y:UpW W.heap.size W,(Instr.lookup 222 (.map (some bm)) (.int .i64 x.id) false).run Tryz.prog y.w=.ok (.bool false) y.w:=fun y=>look_at hst.im HW.out (y.up.block bm hst.im.lt)
 have X0:∀ y:UpW W.heap.size W,y.w.cell? ⟨x.g,0,none⟩=some (.int .i64 x.id):=fun y=>(hx1.up y.up).cell 0 _ rfl
 have X1:∀ y:UpW W.heap.size W,y.w.cell? ⟨x.g,1,none⟩=some (.int .i64 x.f):=fun y=>(hx1.up y.up).cell 1 _ rfl
 have X2:∀ y:UpW W.heap.size W,y.w.cell? ⟨x.g,2,none⟩=some (.int .i64 x.t):=fun y=>(hx1.up y.up).cell 2 _ rfl
 have T0:∀ y:UpW W.heap.size W,y.w.cell? ⟨w1.heap.size,0,none⟩=some (.int .i64 k):=fun y=>(y.up.cell (p:=⟨w1.heap.size,0,none⟩) (by show w1.heap.size<W.heap.size;omega)).trans (by simp only[World.cell?,al];rfl)
 have T1:∀ y:UpW W.heap.size W,y.w.cell? ⟨w1.heap.size,1,none⟩=some (.int .i64 n):=fun y=>(y.up.cell (p:=⟨w1.heap.size,1,none⟩) (by show w1.heap.size<W.heap.size;omega)).trans (by simp only[World.cell?,al];rfl)
 have NW:=neqW k n
 have HST:=qH hst
 have HX1:=qH hx1
 clear hst hx1 al az hbW
 refine wp_region_up W.heap.size (by kernel_rfl) (by kernel_rfl) ?_
 repeat (go_big_quiet_step (fail))
 refine wpQuiet_nil ?_
 rintro ⟨w2,hb2⟩
 dsimp only
 clear CM LK X0 X1 X2 T0 T1 NW
 have hst2:=HST.out.up hb2
 obtain⟨Ag,cg,rfl,_,_,_⟩:=hst2.own.shape eltI
 have hx2:=HX1.out.up hb2
 have hwz:=hb2.size
 have hwz1:=HBW.out.size
 have hB0:=HST.out.hB
 have hgB:=HST.out.gB
 obtain⟨gv',w3,happ,hown3,hbel3,hon3,hv3⟩:=append_elem eltI (hst2.own.kept (w':=w2.drew) fun _ _=>rfl) (w:=w2.drew) (by show B<=w2.heap.size;omega) x.id (by omega) (by omega)
 have happ':∀ ty,(Builtin.append_ #[78,78] ty #[.slice Ag ids.length cg,.slice (some ⟨w2.heap.size,0,none⟩) 1 1]).run Tryz.prog (w2.alloc (.cells #[.int .i64 x.id] 3)).drew=.ok gv' w3:=happ
 have hgn:∀ k,(Value.slice Ag ids.length cg).ownBlock=some k->B<=k:=fun k hk=>HST.out.own.base hk
 have CG:∀ y:OnW (fun k=>(Value.slice Ag ids.length cg).ownBlock=some k) w2,y.w.cell? ⟨qg,0,none⟩=some (.slice Ag ids.length cg):=fun y=>(World.cell?_of_block (w:=w2) (a:=⟨qg,0,none⟩) (y.on.block qg (by omega) (fun e=>by have:=hgn _ e;omega))).trans hst2.cg
 have X0:∀ y:OnW (fun k=>(Value.slice Ag ids.length cg).ownBlock=some k) w2,y.w.cell? ⟨x.g,0,none⟩=some (.int .i64 x.id):=fun y=>(World.cell?_of_block (w:=w2) (a:=⟨x.g,0,none⟩) (y.on.block x.g (hx2.lt (foot_g x)) (fun e=>by have:=hgn _ e;have:=hxB;omega))).trans (hx2.cell 0 _ rfl)
 have hq3:w3.heap[qg]?=w2.heap[qg]?:=hon3.block qg (by show qg<w2.heap.size;omega) (fun e=>by have:=hgn _ e;omega)
 have d3:=(World.cell?_of_block (w:=w2) (a:=⟨qg,0,none⟩) hq3).trans hst2.cg
 have z3:=(World.frozen?_of_block (w:=w2) (a:=⟨qg,0,none⟩) hq3).trans hst2.fg
 have hon3':Only (fun k=>(Value.slice Ag ids.length cg).ownBlock=some k) w2 w3:=(Only.refl _ w2).drew.trans hon3
 obtain⟨l1,l2,l3,l4⟩:=HST.out.lo
 have hfin:DelSt (w3.setCell ⟨qg,0,none⟩ gv') b bm qo qm qg B ev m gv' (ids++[x.id]):=by
  have hk:∀ k,k<qg->(w3.setCell ⟨qg,0,none⟩ gv').heap[k]?=w2.heap[k]?:=fun k hk=>by
   rw[Below.heap_setCell _ _ _ _ (show k≠qg by omega)]
   exact hon3'.block k (by omega) (fun e=>by have:=hgn _ e;omega)
  refine⟨(World.cell?_of_block (w:=w2) (a:=⟨qo,0,none⟩) (hk qo l1)).trans hst2.co,(World.cell?_of_block (w:=w2) (a:=⟨qm,0,none⟩) (hk qm l2)).trans hst2.cm,World.cell?_setCell_same' _ _ _ (by rw[d3];rfl),?_,(World.cell?_of_block (w:=w2) (a:=⟨b,1,none⟩) (hk b l4)).trans hst2.ce,hst2.im.kept (hk bm l3),?_,hgB,⟨l1,l2,l3,l4⟩,?_⟩
  ·rw[World.frozen?_setCell];exact z3
  ·exact hown3.kept fun g hg=>Below.heap_setCell _ _ _ _ (fun e=>by have:=hown3.base hg;have e':g=qg:=e;omega)
  ·have h1:=hon3'.size
   rw[World.size_setCell];omega
 have hall:Only (fun k=>k=qg\/(Value.slice Ag ids.length cg).ownBlock=some k) w (w3.setCell ⟨qg,0,none⟩ gv'):=((((Only.of_below HBW.out).trans (Only.of_below hb2))).trans (hon3'.mono fun k e=>.inr e)).setCell (p:=⟨qg,0,none⟩) (.inl rfl) _
 obtain⟨Ag2,cg2,hgv2,_,_,_⟩:=hown3.shape eltI
 have HP:=qH happ'
 have HF:=qH hfin
 have HA:=qH hall
 have HON:=qH hon3'
 generalize (ids++[x.id]).length=n2 at hgv2
 clear happ happ' hfin hall hst2 hx2 hown3 hbel3 hon3 hv3 hq3 hon3' hgn
 subst hgv2
 go_wp2_with fail
 refine wp_region_mixO (fun k=>(Value.slice Ag ids.length cg).ownBlock=some k) 7 (.one [0,1,2,3,4] 5 (.one [] 6 (.done []))) (by kernel_rfl) (fun c d v a w h=>by cases d<;>exact h) (by kernel_rfl) ?_
 simp only[wpMixT,pk_nil,pk_cons,pushAt_zero,pushAt_succ,List.drop_succ_cons,List.drop_zero]
 repeat (go_big_quiet_step (fail))
 refine wpQuiet_nil ?_
 clear CG X0
 go_wp2_with fail
 refine thenQ_normal ⟨⟨⟨_,(Only.refl _ w2).drew.alloc _⟩,rfl⟩,?_⟩
 refine wpQuiet_nil ?_
 refine wpList_app_run rfl _ _ _ rfl rfl rfl HP.out ?_
 go_wp2_with fail
 refine thenQ_normal ⟨⟨⟨_,HON.out⟩,rfl⟩,?_⟩
 refine wpQuiet_nil ?_
 go_wp2_with fail
 go_ret
 exact⟨rfl,_,HF.out,HA.out⟩
theorem delC {bm qo qm qg B:Nat} {gv:Value} {ids:List Int} (h:DelSt w b bm qo qm qg B ev m gv ids) (hx:OverIn w x) (hs:SortedP x.ps) (hl:x.ps.length<=1000000) {was:Bool} (hw:lookM m x.id=some was) (hxB:x.g<B) (hil:ids.length<=1000000) :
  Calls Tryz.prog 230 #[.pointer (some ⟨x.g,0,none⟩),.pointer (some ⟨qo,0,none⟩),.pointer (some ⟨qm,0,none⟩),.pointer (some ⟨qg,0,none⟩)] w (DelC w b bm qo qm qg B ev m gv ids (goesB was ev x.dat) (if goesB was ev x.dat then ids++[x.id] else ids)):=by
 have e:∀ ps,x.dat.ps=ps->x.ps=ps:=fun ps h=>h
 cases hval:valP x.ps ev with
 | none=>
   cases was with
   | true=>have hg:goesB true ev x.dat=false:=rfl
           rw[hg];exact delC_a h hx hs hl hval hw
   | false=>
     have hg:goesB false ev x.dat=false:=by
      unfold goesB;rw[show x.dat.ps=x.ps from rfl,hval];simp
     rw[hg]
     cases hft:(x.f == x.t) with
     | false=>exact delC_b h hx hs hl hval hw hft
     | true=>exact delC_c h hx hs hl hval hw hft
 | some kn=>
   obtain⟨k,n⟩:=kn
   cases was with
   | true=>have hg:goesB true ev x.dat=false:=rfl
           rw[hg];exact delC_d h hx hs hl hval hw
   | false=>
     cases hft:(x.f == x.t) with
     | false=>
       have hg:goesB false ev x.dat=false:=by
        unfold goesB;rw[show x.dat.f=x.f from rfl,show x.dat.t=x.t from rfl,hft];rfl
       rw[hg];exact delC_e h hx hs hl hval hw hft
     | true=>
       cases hkn:(k == 1 && n == 0) with
       | true=>
         have hg:goesB false ev x.dat=false:=by
          unfold goesB;rw[show x.dat.f=x.f from rfl,show x.dat.t=x.t from rfl,hft,show x.dat.ps=x.ps from rfl,hval];simp[hkn]
         rw[hg];exact delC_f h hx hs hl hval hw hft hkn
       | false=>
         have hg:goesB false ev x.dat=true:=by
          unfold goesB;rw[show x.dat.f=x.f from rfl,show x.dat.t=x.t from rfl,hft,show x.dat.ps=x.ps from rfl,hval];simp[hkn]
         rw[hg];exact delC_g h hx hs hl hval hw hft hkn hxB hil
theorem enters_del:Enters 230:=enters_mk Tryz.func230 (by kernel_rfl) rfl
end
end Go.Proofs.YtkpoodjhjfmfjaaGreatDoor.Ovs
namespace Go.Proofs.YtkpoodjhjfmfjaaGreatDoor.Ovs
open Go.RowKit
section
variable {w w' : World} {x : OverE} {L L' M : List OverE} {b : Nat} {pr ev nx : Int} {v v' : Value} {A : Option Addr} {m : List (Int × Bool)}
def delX (f t:Int) (x:OverD):OverD:=⟨x.id,backI x.f f t,backI x.t f t,x.fr,x.re,x.ps⟩
def goesX (ev f t:Int) (x:OverD):Bool:=goesB (x.f == x.t) ev (delX f t x)
def goneI (ev f t:Int) (D:List OverD):List Int:=(D.filter (goesX ev f t)).map OverD.id
def leftD (ev f t:Int) (D:List OverD):List OverD:=(D.filter (fun x=>!goesX ev f t x)).map (delX f t)
def delE (f t:Int):Int:=if rightI f t then 0 else 3
def delI (ev f t:Int) (D:List OverD):List Int:=if rightI f t then goneI ev f t D else []
def delD (ev f t:Int) (D:List OverD):List OverD:=if rightI f t then leftD ev f t D else D
def OPostS (w:World) (b:Nat) (pr ev:Int) (v:Value) (L:List OverE) (ids:List Int) (er:Int) (D:List OverD) (nx:Int) (e:Ending) (w':World):Prop:=
 ∃ gv v' L',e=.returned (.tuple #[gv,.int .i64 er])/\ROwn encI 3 1 w.heap.size w' gv ids/\OvsAt w' b pr ev v' L' nx/\L'.map OverE.dat=D/\Only (· ∈ footS b v L) w w'/\∀ k ∈ footS b v' L',k ∈ footS b v L\/w.heap.size<=k/\gv.ownBlock≠some k
theorem OvsAt.sub' (h:OvsAt w b pr ev v L nx) (hs:L'.Sublist L) (hown:ROwn encT 203 1 0 w' v' L') (hv:v'.ownBlock=v.ownBlock) (hk:∀ k ∈ footS b v L,v.ownBlock≠some k->w'.heap[k]?=w.heap[k]?) :
  OvsAt (w'.setCell ⟨b,2,none⟩ v') b pr ev v' L' nx:=by
 have hb0:w'.heap[b]?=some (.cells #[.int .i64 pr,.int .i64 ev,v,.int .i64 nx,.bool true] 202 (0,0)):=(hk b foot_b h.vb).trans h.blk
 have h1:=heap_setCell_same w' b 2 _ _ v' hb0
 refine⟨h1,hown.kept fun g hg=>Below.heap_setCell _ _ _ _ (fun e=>h.vb (by rw[<-hv,hg,show g=b from e])),fun x hx=>?_,fun x hx=>h.fx x (hs.subset hx),h.pw.sublist hs,fun x hx=>⟨(h.nb x (hs.subset hx)).1,by rw[hv];exact(h.nb x (hs.subset hx)).2⟩,by rw[hv];exact h.vb⟩
 have hxm:=hs.subset hx
 exact(h.ins x hxm).kept fun k hk'=>(Below.heap_setCell _ _ _ _ (fun e=>(h.nb x hxm).1 (by rw[<-show k=b from e];exact hk'))).trans (hk k (foot_x hxm hk') (fun e=>(h.nb x hxm).2 k e hk'))
def goneL (p:OverE->Bool) (pre:List OverE):List Int:=(pre.filter p).map OverE.id
theorem goneL_snoc (p:OverE->Bool) (pre:List OverE) (x:OverE):goneL p (pre++[x])=if p x then goneL p pre++[x.id] else goneL p pre:=by
 unfold goneL
 rw[List.filter_append,List.map_append]
 cases h:p x<;>simp[h]
theorem goneL_len (p:OverE->Bool) (pre:List OverE):(goneL p pre).length<=pre.length:=by
 unfold goneL;rw[List.length_map];exact List.length_filter_le _ _
set_option maxRecDepth 100000 in
set_option maxHeartbeats 2000000 in
theorem odel_bad (h:OvsAt w b pr ev v L nx) (f t:Int) (hr:rightI f t=false) :
  Calls Tryz.prog 156 #[.pointer (some ⟨b,0,none⟩),.int .i64 f,.int .i64 t] w (OPostS w b pr ev v L [] 3 (L.map OverE.dat) nx):=by
 have hB:=below1 w (.cells #[.pointer (some ⟨b,0,none⟩)] 108)
 have HV:=qH (ovalid (h.up hB))
 have HR:=qH (fun w=>hr▸right_any f t w)
 have H:=qH h
 have HB:=qH hB
 have k0:(w.alloc (.cells #[.pointer (some ⟨b,0,none⟩)] 108)).cell? ⟨w.heap.size,0,none⟩=some (.pointer (some ⟨b,0,none⟩)):=by simp only[World.cell?,(MapKept.heap_alloc w _).1];rfl
 clear h hr hB
 go_enter Tryz.func156,Tryz.ntmps156
 go_wp2_with fail
 refine HV.out.mono ?_
 rintro e w0 ⟨rfl,rfl⟩
 go_wp2_with fail
 refine(HR.out _).mono ?_
 rintro e w0 ⟨rfl,rfl⟩
 go_wp2_with fail
 go_ret2
 exact⟨_,v,L,rfl,ROwn.nil _ _,H.out.up HB.out,rfl,Only.of_below HB.out,fun k hk=>.inl hk⟩
set_option maxRecDepth 100000 in
set_option maxHeartbeats 4000000 in
theorem odel_ok (h:OvsAt w b pr ev v L nx) (f t:Int) (hr:rightI f t=true) (hp:∀ x ∈ L,1<=x.f/\x.f<=1099511627776/\1<=x.t/\x.t<=1099511627776) (hs:∀ x ∈ L,SortedP x.ps/\x.ps.length<=64) (hid:(L.map OverE.id).Nodup) (hl:L.length<=1000000) :
  Calls Tryz.prog 156 #[.pointer (some ⟨b,0,none⟩),.int .i64 f,.int .i64 t] w (OPostS w b pr ev v L (goneI ev f t (L.map OverE.dat)) 0 (leftD ev f t (L.map OverE.dat)) nx):=by
 obtain⟨A,cp,rfl,hA1,hA2,hAs⟩:=h.own.shape eltT
 have hrb:1<=f/\f<=t/\t<=1099511627776:=by
  unfold rightI placeI at hr
  simp only[Bool.and_eq_true,decide_eq_true_eq] at hr
  omega
 have hB:=below1 w (.cells #[.pointer (some ⟨b,0,none⟩)] 108)
 have HV:=qH (ovalid (h.up hB))
 have HR:=qH (fun w=>hr▸right_any f t w)
 have k0:(w.alloc (.cells #[.pointer (some ⟨b,0,none⟩)] 108)).cell? ⟨w.heap.size,0,none⟩=some (.pointer (some ⟨b,0,none⟩)):=by simp only[World.cell?,(MapKept.heap_alloc w _).1];rfl
 obtain⟨wA,hwA⟩:∃ wA,wA=w.alloc (.cells #[.pointer (some ⟨b,0,none⟩)] 108):=⟨_,rfl⟩
 obtain⟨wM,hwM⟩:∃ wM,wM=wA.alloc (.map #[] 0):=⟨_,rfl⟩
 obtain⟨wB,hwB⟩:∃ wB,wB=wM.alloc (.cells #[.map (some (w.heap.size+1))] 222):=⟨_,rfl⟩
 have zA:wA.heap.size=w.heap.size+1:=by rw[hwA];simp
 have zM:wM.heap.size=w.heap.size+2:=by rw[hwM];simp[zA]
 have zB:wB.heap.size=w.heap.size+3:=by rw[hwB];simp[zM]
 have bA:Below w.heap.size w wA:=by rw[hwA];exact hB
 have bM:Below wA.heap.size wA wM:=by rw[hwM];exact below1 _ _
 have bB:Below wM.heap.size wM wB:=by rw[hwB];exact below1 _ _
 have im0:IM wB (w.heap.size+1) encB []:=by
  have:=IM.made wA encB
  rw[<-hwM,zA] at this
  exact this.below bB (by omega)
 have bw:Below w.heap.size w wB:=up2 (up2 bA bM) bB
 have cO:wB.cell? ⟨w.heap.size,0,none⟩=some (.pointer (some ⟨b,0,none⟩)):=(bB.cell (p:=⟨w.heap.size,0,none⟩) (by show w.heap.size<_;omega)).trans ((bM.cell (p:=⟨w.heap.size,0,none⟩) (by show w.heap.size<_;omega)).trans (by rw[hwA];exact k0))
 have cM:wB.cell? ⟨w.heap.size+2,0,none⟩=some (.map (some (w.heap.size+1))):=by
  have:=(MapKept.heap_alloc wM (.cells #[.map (some (w.heap.size+1))] 222)).1
  rw[zM,<-hwB] at this
  simp only[World.cell?,this];rfl
 have c2:wB.cell? ⟨b,2,none⟩=some (.slice A L.length cp):=(h.up bw).cell 2 _ rfl
 have H:=qH h
 have HP:=qH hp
 have HS:=qH hs
 have HID:=qH hid
 have hbl:=h.blt
 have HBW:=qH bw
 have HI0:=qH im0
 have HE:=qH (show wB=((w.alloc (.cells #[.pointer (some ⟨b,0,none⟩)] 108)).alloc (.map #[] 0)).alloc (.cells #[.map (some (w.heap.size+1))] 222) by rw[hwB,hwM,hwA])
 have CO:=qH cO
 have CM:=qH cM
 have C2:=qH c2
 clear h hr hB hp hs hid bA bM bB bw im0 hAs hwA hwM hwB zA zM cO cM c2
 have hmm:=@run_makeMap Tryz.prog
 go_enter Tryz.func156,Tryz.ntmps156
 go_wp2_with fail
 refine HV.out.mono ?_
 rintro e w0 ⟨rfl,rfl⟩
 go_wp2_with fail
 refine(HR.out _).mono ?_
 rintro e w0 ⟨rfl,rfl⟩
 have c2:=C2.out
 rw[HE.out] at c2
 have cO:=CO.out
 rw[HE.out] at cO
 go_wp2_with fail
 rw[<-HE.out]
 clear c2 cO
 go_loopw [27] (fun vi wr=>∃(k:Nat) (m:List (Int × Bool)),k<=L.length/\vi=.int .i64 k/\IM wr (w.heap.size+1) encB m/\Only (fun q=>q=w.heap.size+1) wB wr/\∀ j x,j<k->L[j]?=some x->lookM m x.id=some (x.f == x.t)) (fun vi _=>L.length -(intOf vi).toNat)
 case atStart=>exact⟨0,[],by omega,rfl,HI0.out,Only.refl _ _,fun j x hj=>by omega⟩
 case round=>
  obtain⟨k,m,hk,rfl,him,hon,hlk⟩:=hrel
  have hz:=hon.size
  have hzb:=HBW.out.size
  have hbk:∀ q,q<w.heap.size->wr.heap[q]?=w.heap[q]?:=fun q hq=>(hon.block q (by omega) (by omega)).trans (HBW.out.block q hq)
  have hbw:Below w.heap.size w wr:=⟨hon.os.trans HBW.out.os,hon.tape.trans HBW.out.tape,hon.output.trans HBW.out.output,by omega,hbk⟩
  have hBz:w.heap.size+2<wB.heap.size:=lt_of_cell CM.out
  have cM:wr.cell? ⟨w.heap.size+2,0,none⟩=some (.map (some (w.heap.size+1))):=(World.cell?_of_block (w:=wB) (a:=⟨w.heap.size+2,0,none⟩) (hon.block (w.heap.size+2) (by omega) (by omega))).trans CM.out
  have cO:wr.cell? ⟨w.heap.size,0,none⟩=some (.pointer (some ⟨b,0,none⟩)):=(World.cell?_of_block (w:=wB) (a:=⟨w.heap.size,0,none⟩) (hon.block w.heap.size (by omega) (by omega))).trans CO.out
  have HBR:=qH hbw
  have HIM:=qH him
  have HON:=qH hon
  have HLK:=qH hlk
  clear hbk hbw hon hlk him hz hzb
  by_cases hlt:k<L.length
  ·obtain⟨x,hx⟩:∃ x,L[k]?=some x:=⟨_,List.getElem?_eq_getElem hlt⟩
   have hxm:=List.mem_of_getElem? hx
   obtain⟨A1,c1,hv1,_,_,hr1⟩:=(H.out.up HBR.out).own.shape eltT
   cases hv1
   obtain⟨g,o,hAe,hg,hc⟩:=hr1.at_ eltT hx
   have k0:=hc 0 _ rfl
   simp only[Nat.mul_one,Nat.add_zero] at k0
   have hin:=(H.out.up HBR.out).ins x hxm
   have x0:=hin.cell 0 _ rfl
   have x1:=hin.cell 1 _ rfl
   have x2:=hin.cell 2 _ rfl
   obtain⟨w',hrun,him',hgr,hsz⟩:=(HIM.out.kept (w':=wr.drew) rfl).store (P:=Tryz.prog) mapBT keyT x.id (x.f == x.t)
   have HX:=qH hx
   have HIM2:=qH him'
   have HON2:=qH ((HON.out.drew).trans (Only.of_grown (S:=fun q=>q=w.heap.size+1) hgr rfl))
   have hlt':(k:Int)<L.length:=by omega
   have HAE:=qH hAe
   clear hx hxm hc hin hr1 hAe him' hgr hsz
   have hAe:=HAE.out
   subst hAe
   go_wp2_with fail
   go_region
   go_wp2_with fail
   go_roundw
   case rel=>
    refine⟨k+1,_,by omega,by go_num,HIM2.out,HON2.out,fun j y hj hy=>?_⟩
    rw[lookM_put]
    by_cases e:y.id=x.id
    ·have hjk:j=k:=by
      have hn:=HID.out
      obtain⟨hj1,he1⟩:=List.getElem?_eq_some_iff.1 hy
      obtain⟨hk1,he2⟩:=List.getElem?_eq_some_iff.1 HX.out
      exact(List.getElem_inj (xs:=L.map OverE.id) (h₀:=by simpa using hj1) (h₁:=by simpa using hk1) hn).1 (by simp[he1,he2,e])
     subst hjk
     rw[HX.out] at hy;cases hy
     rw[if_pos rfl]
    ·rw[if_neg e]
     have hjk:j≠k:=fun e2=>by subst e2;rw[HX.out] at hy;cases hy;exact e rfl
     exact HLK.out j y (by omega) hy
   case measure=>simp[intOf];omega
  ·obtain rfl:k=L.length:=by omega
   have HAP:=qH (apply_rem (H.out.up HBR.out) hrb.1 hrb.2.1 hrb.2.2 HP.out hl)
   clear hlt hk
   go_wp2_with fail
   refine HAP.out.mono ?_
   rintro e w2 ⟨rfl,hov,hon2⟩
   have hs2:=hon2.size
   have hff:∀ q,q ∈ footS b (.slice A L.length cp) L->q<w.heap.size:=fun q hq=>H.out.lt hq
   have cM2:w2.cell? ⟨w.heap.size+2,0,none⟩=some (.map (some (w.heap.size+1))):=(World.cell?_of_block (w:=wr) (a:=⟨w.heap.size+2,0,none⟩) (hon2.block (w.heap.size+2) (lt_of_cell cM) (fun e=>by have:=hff _ e;omega))).trans cM
   have cO2:w2.cell? ⟨w.heap.size,0,none⟩=some (.pointer (some ⟨b,0,none⟩)):=(World.cell?_of_block (w:=wr) (a:=⟨w.heap.size,0,none⟩) (hon2.block w.heap.size (lt_of_cell cO) (fun e=>by have:=hff _ e;omega))).trans cO
   have im2:IM w2 (w.heap.size+1) encB m:=HIM.out.kept (hon2.block (w.heap.size+1) HIM.out.lt (fun e=>by have:=hff _ e;omega))
   have hlt2:=lt_of_cell cM2
   clear cM cO
   obtain⟨L2,hL2⟩:∃ L2,L2=L.map (endsX (fun x=>(backI x.f f t,backI x.t f t))):=⟨_,rfl⟩
   rw[<-hL2] at hov
   have hl2:L2.length=L.length:=by rw[hL2];simp
   obtain⟨w3,hw3⟩:∃ w3,w3=w2.alloc (.cells #[.slice none 0 0] 78):=⟨_,rfl⟩
   have z3:w3.heap.size=w2.heap.size+1:=by rw[hw3];simp
   have b3:Below w2.heap.size w2 w3:=by rw[hw3];exact below1 _ _
   have h3a:w3.heap[w2.heap.size]?=some (.cells #[.slice none 0 0] 78 (0,0)):=by rw[hw3];exact(MapKept.heap_alloc w2 _).1
   have hov3:OvsAt w3.drew b pr ev (.slice A L.length cp) L2 nx:=hov.up b3.drew
   have hbq:=H.out.blt
   have hDS:DelSt w3.drew b (w.heap.size+1) w.heap.size (w.heap.size+2) w2.heap.size (w2.heap.size+1) ev m (.slice none 0 0) []:=
    ⟨(b3.cell (p:=⟨w.heap.size,0,none⟩) (lt_of_cell cO2)).trans cO2,(b3.cell (p:=⟨w.heap.size+2,0,none⟩) (lt_of_cell cM2)).trans cM2,by show w3.cell? _=_;simp only[World.cell?,h3a];rfl,by show w3.frozen? _=_;simp only[World.frozen?,h3a];rfl,
      hov3.cell 1 _ rfl,im2.kept (b3.block _ im2.lt),ROwn.nil _ _,by omega,⟨by omega,by omega,by omega,by omega⟩,by show _<=w3.heap.size;omega⟩
   obtain⟨p,hp⟩:∃ p:OverE->Bool,p=fun x=>goesB ((lookM m x.id).getD false) ev x.dat:=⟨_,rfl⟩
   have hvl:∀ g,(Value.slice A L.length cp).ownBlock=some g->g<w.heap.size:=fun g hg=>H.out.own.lt hg
   have hft2:∀ k,k ∈ footS b (.slice A L.length cp) L2 ↔ k ∈ footS b (.slice A L.length cp) L:=fun k=>by rw[hL2,foot_map]
   have hown3:ROwn encT 203 1 0 w3.drew (.slice A L.length cp) L2:=hov3.own
   have HD:=qH (delete_any (w:=w3.drew) (A:=A) (L:=L2) (p:=p) enters_del (caps:=#[.pointer (some ⟨w.heap.size,0,none⟩),.pointer (some ⟨w.heap.size+2,0,none⟩),.pointer (some ⟨w2.heap.size,0,none⟩)]) L.length cp hl2.symm hown3
    (Inv:=fun pre w1=>∃ gv,DelSt w1 b (w.heap.size+1) w.heap.size (w.heap.size+2) w2.heap.size (w2.heap.size+1) ev m gv (goneL p pre)/\Only (fun k=>(Value.slice A L.length cp).ownBlock=some k\/k=w2.heap.size) w3.drew w1)
    (fun pre x post w1 hsp ⟨gv,hd,ho⟩=>by
     have hxm:x ∈ L2:=by rw[hsp];simp
     obtain⟨y,hym,rfl⟩:∃ y ∈ L,endsX (fun x=>(backI x.f f t,backI x.t f t)) y=x:=by rw[hL2] at hxm;exact List.mem_map.1 hxm
     obtain⟨j,hj⟩:=List.mem_iff_getElem?.1 hym
     have hlkx:=HLK.out j y (List.getElem?_eq_some_iff.1 hj).1 hj
     have hxin:OverIn w1 (endsX (fun x=>(backI x.f f t,backI x.t f t)) y):=(hov3.ins _ hxm).kept fun k hk=>ho.block k ((hov3.ins _ hxm).lt hk) (fun e=>by
      have hk2:=hff k ((hft2 k).1 (foot_x hxm hk))
      rcases e with e|e
      ·exact(hov3.nb _ hxm).2 k e hk
      ·omega)
     have hpx:p (endsX (fun x=>(backI x.f f t,backI x.t f t)) y)=goesB (y.f == y.t) ev (endsX (fun x=>(backI x.f f t,backI x.t f t)) y).dat:=by rw[hp];show goesB ((lookM m y.id).getD false) ev _=_;rw[hlkx];rfl
     have hgl:=hff _ ((hft2 _).1 (foot_x hxm (foot_g _)))
     have hgn:(goneL p pre).length<=1000000:=by have h1:=goneL_len p pre;have h2:=congrArg List.length hsp;simp at h2;omega
     refine(delC hd hxin (HS.out y hym).1 (by have:=(HS.out y hym).2;show y.ps.length<=_;omega) (was:=(y.f == y.t)) hlkx (by omega) hgn).mono ?_
     rintro e w5 ⟨rfl,gv',hd',ho'⟩
     refine⟨by rw[hpx],⟨gv',?_,ho.then ho' (fun i hi hlt=>?_)⟩,fun g hg=>ho'.block g ?_ ?_⟩
     ·rw[goneL_snoc,hpx];exact hd'
     ·rcases hi with e|e
      ·exact .inr e
      ·have:=hd.own.base e
       have hlt':i<w3.heap.size:=hlt
       omega
     ·have:=hvl g hg;have:=hd.hB;omega
     ·intro e
      have h1:=hvl g hg
      rcases e with e|e
      ·omega
      ·have:=hd.own.base e;omega)
    (fun pre wa wb ⟨gv,hd,ho⟩ hon=>⟨gv,hd.kept hon.size (fun k hk _ hq=>hon.block k hk (fun e=>by
     have h1:=hvl k e
     have hvb:=H.out.vb
     rcases hq with e2|e2|e2|e2|e2|e2
     ·omega
     ·omega
     ·omega
     ·omega
     ·exact hvb (e2▸e)
     ·have:=hd.own.base e2;omega)),ho.trans (hon.mono fun k e=>.inl e)⟩)
    ⟨_,hDS,Only.refl _ _⟩ (by omega))
   have hgone:goneL p L2=goneI ev f t (L.map OverE.dat):=by
    unfold goneL goneI
    rw[hL2,List.filter_map,List.map_map,List.filter_map,List.map_map]
    have hfe:L.filter (p ∘ endsX (fun x=>(backI x.f f t,backI x.t f t)))=L.filter (goesX ev f t ∘ OverE.dat):=List.filter_congr fun y hy=>by
     obtain⟨j,hj⟩:=List.mem_iff_getElem?.1 hy
     have hlkx:=HLK.out j y (List.getElem?_eq_some_iff.1 hj).1 hj
     rw[hp]
     show goesB ((lookM m y.id).getD false) ev _=_
     rw[hlkx];rfl
    rw[hfe];rfl
   have hleft:(L2.filter (fun x=>!p x)).map OverE.dat=leftD ev f t (L.map OverE.dat):=by
    unfold leftD
    rw[hL2,List.filter_map,List.map_map,List.filter_map,List.map_map]
    have hfe:L.filter ((fun x=>!p x) ∘ endsX (fun x=>(backI x.f f t,backI x.t f t)))=L.filter ((fun x=>!goesX ev f t x) ∘ OverE.dat):=List.filter_congr fun y hy=>by
     obtain⟨j,hj⟩:=List.mem_iff_getElem?.1 hy
     have hlkx:=HLK.out j y (List.getElem?_eq_some_iff.1 hj).1 hj
     rw[hp]
     show(!goesB ((lookM m y.id).getD false) ev _)=_
     rw[hlkx];rfl
    rw[hfe];rfl
   have CO3:∀ y:OnW (fun k=>(Value.slice A L.length cp).ownBlock=some k\/k=w2.heap.size) w3,y.w.cell? ⟨w.heap.size,0,none⟩=some (.pointer (some ⟨b,0,none⟩)):=fun y=>(World.cell?_of_block (w:=w3) (a:=⟨w.heap.size,0,none⟩) (y.on.block w.heap.size (by omega) (fun e=>by
    rcases e with e|e
    ·have:=hvl _ e;omega
    ·omega))).trans hDS.co
   have C23:∀ y:OnW (fun k=>(Value.slice A L.length cp).ownBlock=some k\/k=w2.heap.size) w3,y.w.cell? ⟨b,2,none⟩=some (.slice A L.length cp):=fun y=>(World.cell?_of_block (w:=w3) (a:=⟨b,2,none⟩) (y.on.block b (by omega) (fun e=>by
    rcases e with e|e
    ·exact H.out.vb e
    ·omega))).trans (hov3.cell 2 _ rfl)
   have HOV3:=qH hov3
   have HGO:=qH hgone
   have HLE:=qH hleft
   have HW3:=qH hw3
   have HFT:=qH hft2
   have HONA:=qH (((Only.of_below HBR.out).trans hon2).trans (Only.of_below (S:=(· ∈ footS b (.slice A L.length cp) L)) b3))
   clear hov hov3 hDS hgone hleft hown3 b3 h3a im2 cM2 cO2 hon2 hp hw3 hft2 hL2 hff
   go_wp2_with fail
   rw[<-HW3.out]
   refine wp_region_mixO (fun k=>(Value.slice A L.length cp).ownBlock=some k\/k=w2.heap.size) 9 (.one [0,1,2,3,4] 5 (.one [] 6 (.done [7,8]))) (by kernel_rfl) (fun c d v a w h=>by cases d<;>exact h) (by kernel_rfl) ?_
   simp only[wpMixT,pk_nil,pk_cons,pushAt_zero,pushAt_succ,List.drop_succ_cons,List.drop_zero]
   repeat (go_big_quiet_step (fail))
   refine wpQuiet_nil ?_
   clear CO3 C23
   go_wp2_with fail
   refine thenQ_normal ⟨⟨⟨_,(Only.refl _ w3).drew⟩,rfl⟩,?_⟩
   refine wpQuiet_nil ?_
   go_wp2_with fail
   refine HD.out.mono ?_
   rintro e w4 ⟨v',rfl,hown4,⟨gv,hd4,ho4⟩,hve⟩
   obtain⟨A4,c4,hv4,_,_,_⟩:=hown4.shape eltT
   have hw4k:∀ k ∈ footS b (.slice A L.length cp) L2,(Value.slice A L.length cp).ownBlock≠some k->w4.heap[k]?=w3.drew.heap[k]?:=fun k hk hne=>ho4.block k (HOV3.out.lt hk) (fun e=>by
    rcases e with e|e
    ·exact hne e
    ·have:=H.out.lt ((HFT.out k).1 hk);omega)
   have hsub:=HOV3.out.sub' (List.filter_sublist (p:=fun x=>!p x)) hown4 hve hw4k
   have hbk:w4.heap[b]?=w3.drew.heap[b]?:=hw4k b foot_b H.out.vb
   have d2:=(World.cell?_of_block (w:=w3.drew) (a:=⟨b,2,none⟩) hbk).trans (HOV3.out.cell 2 _ rfl)
   have z2:=(World.frozen?_of_block (w:=w3.drew) (a:=⟨b,2,none⟩) hbk).trans (HOV3.out.fz 2)
   have cg:=hd4.cg
   have hgb:gv.ownBlock≠some b:=fun e=>by have:=hd4.own.base e;omega
   have howng:ROwn encI 3 1 w.heap.size (w4.setCell ⟨b,2,none⟩ v') gv (goneI ev f t (L.map OverE.dat)):=by
    have h1:=hd4.own
    rw[HGO.out] at h1
    exact(h1.low (by omega)).kept fun g hg=>Below.heap_setCell _ _ _ _ (fun e=>hgb (by rw[<-show g=b from e];exact hg))
   have hfo:∀ k ∈ footS b v' (L2.filter (fun x=>!p x)),k ∈ footS b (.slice A L.length cp) L:=fun k hk=>(HFT.out k).1 (foot_sub (List.filter_sublist (p:=fun x=>!p x)) hve k hk)
   have hfin:Only (· ∈ footS b (.slice A L.length cp) L) w (w4.setCell ⟨b,2,none⟩ v'):=((HONA.out.drew).then ho4 (fun i hi hlt=>by
    rcases hi with e|e
    ·exact foot_v e
    ·omega)).setCell (p:=⟨b,2,none⟩) foot_b _
   have HSUB:=qH hsub
   have HOG:=qH howng
   have HFO:=qH hfo
   have HFIN:=qH hfin
   have HON4:=qH ((Only.refl (fun k=>(Value.slice A L.length cp).ownBlock=some k\/k=w2.heap.size) w3).drew.trans ho4)
   generalize (L2.filter (fun x=>!p x)).length=L4 at hv4
   clear hsub howng hfo hfin hown4 hd4 ho4 hve hw4k hbk hgb
   subst hv4
   go_wp2_with fail
   refine thenQ_normal ⟨⟨⟨_,HON4.out⟩,rfl⟩,?_⟩
   repeat (go_big_quiet_step (fail))
   refine wpQuiet_nil ?_
   have hqb:w2.heap.size≠b:=by omega
   go_wp2_with fail
   go_ret2
   exact⟨gv,_,_,rfl,HOG.out,HSUB.out,HLE.out,HFIN.out,fun k hk=>.inl (HFO.out k hk)⟩
theorem odel (h:OvsAt w b pr ev v L nx) (f t:Int) (hp:∀ x ∈ L,1<=x.f/\x.f<=1099511627776/\1<=x.t/\x.t<=1099511627776) (hs:∀ x ∈ L,SortedP x.ps/\x.ps.length<=64) (hid:(L.map OverE.id).Nodup) (hl:L.length<=1000000) :
  Calls Tryz.prog 156 #[.pointer (some ⟨b,0,none⟩),.int .i64 f,.int .i64 t] w (OPostS w b pr ev v L (delI ev f t (L.map OverE.dat)) (delE f t) (delD ev f t (L.map OverE.dat)) nx):=by
 unfold delI delE delD
 cases hr:rightI f t with
 | false=>exact odel_bad h f t hr
 | true=>exact odel_ok h f t hr hp hs hid hl
end
end Go.Proofs.YtkpoodjhjfmfjaaGreatDoor.Ovs
namespace Go.Proofs.YtkpoodjhjfmfjaaGreatDoor.Ovs
open Go.RowKit Go.Sort Go.Shelf
section
variable {α : Type} [Inhabited α] {enc : α → Value}
end
section
variable {w w' W : World} {x : OverE} {L L' M : List OverE} {b : Nat} {pr ev nx : Int} {v v' : Value} {A : Option Addr}
end
end Go.Proofs.YtkpoodjhjfmfjaaGreatDoor.Ovs
