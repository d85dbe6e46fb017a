/- SpkiOne: what it computes. -/
import Derived.Test.YtfengpdaocgcnaaGreatDoorR49
namespace Go.Proofs.YtfengpdaocgcnaaGreatDoor
open Nat (reduceMul reduceLeDiff reduceEqDiff reduceLT reduceAdd reduceSub reduceDiv)
open Int (reduceToNat reducePow)
open Go.RowKit
set_option linter.unusedSimpArgs false
set_option maxRecDepth 100000
def LOaf:FuncId→List V→CR:=fun f args=>tab [(17,cF [] false (.bb true))] LKbf f args
def LOa (J:Inv):Sig:=⟨J,sdf,LOaf,noH,0⟩
theorem LOa_ok (J:Inv) (hJ: ∀w F,J.I w F→JV.I w F) (hE:EdT J):SigOk Tryz.prog (LOa J):= .plain (tab_ok (.c (.z fun _=>started_fn J hJ hE)<| .n) (LKb_ok J hJ hE).1)
theorem unF_ok (t:List UInt8):(unF t).1.Ok:=by
 by_cases h:(unF t).2=0
 ·unfold unF at h⊢
  split
  ·exact z0_ok
  ·rcases hu:unP (Lib.trimSuffix (Lib.trimPrefix t beginN) endN) with _|a
   ·exact z0_ok
   ·simp only
    split
    ·exact parK_ok _
    ·exact z0_ok
 ·rw[unF_no h];exact z0_ok
theorem one_tt (J:Inv) (hJ: ∀w F,J.I w F→JV.I w F) (hE:EdT J) (b t:List UInt8) (hb:b.length≤1048576) (ht:t.length≤1048576) (kty crv:Int) (s n e x y:List UInt8) (hP:parK b=(⟨kty,crv,s,n,e,x,y⟩,0)) (hk:(Ky.mk kty crv s n e x y).Ok) (hg:chkC (Ky.mk kty crv s n e x y).good=0) (h1:(kty==1)=false) (hpr:(Ky.mk kty crv s n e x y).pr=(b,0)) (kty' crv':Int) (s' n' e' x' y':List UInt8) (hU:unF t=(⟨kty',crv',s',n',e',x',y'⟩,0)) (hk':(Ky.mk kty' crv' s' n' e' x' y').Ok) (hpm:(Ky.mk kty' crv' s' n' e' x' y').pem=(t,0)):FnH Tryz.prog J 5 [.by b, .str t] [] 0 (.bb true) [] 9:=by
 refine fnJ Tryz.func5 rfl (by kernel_rfl) (LOa_ok J hJ hE) rfl ?_
 unfold Tryz.f5
 have zV:z0.V= .st [.i 0, .i 0, .by [], .by [], .by [], .by [], .by []]:=rfl
 have zE:(⟨0,0,[],[],[],[],[]⟩:Ky)=z0:=rfl
 have zo:=z0_ok
 have zs:skB z0 z0=true:=skB_self _
 have b0:((0:Int)==0)=true:=rfl
 have by0:(b==b)=true:=beq_self_eq_true b
 have ty0:(t==t)=true:=beq_self_eq_true t
 simp only[↓bD,bQ,reduceMul,reduceLeDiff,reduceEqDiff,reduceLT,reduceAdd,reduceSub,↓reduceIte,reduceCtorEq,reduceToNat,reducePow,Nat.reduceBEq,reduceDiv,LOa,LOaf,LKbf,LKaf,cK,cKK,keyW,byN,Ky.V.eq_1,keyV,zV,zE,zs,b0,by0,ty0,hP,hg,h1,hpr,hU,hpm]
 repeat' with_reducible apply And.intro
 all_goals first|exact hk|exact hk'|exact zo|omega|(intro _;first|exact hk|exact hk'|exact zo|omega)|(refine RenC.skip ?_;simp only[↓bD,bQ,reduceMul,reduceLeDiff,reduceEqDiff,reduceLT,reduceAdd,reduceSub,↓reduceIte,reduceCtorEq,reduceToNat,reducePow,Nat.reduceBEq,reduceDiv])
theorem one_tf (J:Inv) (hJ: ∀w F,J.I w F→JV.I w F) (hE:EdT J) (b t:List UInt8) (hb:b.length≤1048576) (ht:t.length≤1048576) (kty crv:Int) (s n e x y:List UInt8) (hP:parK b=(⟨kty,crv,s,n,e,x,y⟩,0)) (hk:(Ky.mk kty crv s n e x y).Ok) (hg:chkC (Ky.mk kty crv s n e x y).good=0) (h1:(kty==1)=false) (hpr:(Ky.mk kty crv s n e x y).pr=(b,0)) (c':Int) (hU:unF t=(z0,c')) (hc0':(c'==0)=false):FnH Tryz.prog J 5 [.by b, .str t] [] 0 (.bb true) [] 9:=by
 refine fnJ Tryz.func5 rfl (by kernel_rfl) (LOa_ok J hJ hE) rfl ?_
 unfold Tryz.f5
 have zV:z0.V= .st [.i 0, .i 0, .by [], .by [], .by [], .by [], .by []]:=rfl
 have zE:(⟨0,0,[],[],[],[],[]⟩:Ky)=z0:=rfl
 have zo:=z0_ok
 have zs:skB z0 z0=true:=skB_self _
 have b0:((0:Int)==0)=true:=rfl
 have by0:(b==b)=true:=beq_self_eq_true b
 have ty0:(t==t)=true:=beq_self_eq_true t
 simp only[↓bD,bQ,reduceMul,reduceLeDiff,reduceEqDiff,reduceLT,reduceAdd,reduceSub,↓reduceIte,reduceCtorEq,reduceToNat,reducePow,Nat.reduceBEq,reduceDiv,LOa,LOaf,LKbf,LKaf,cK,cKK,keyW,byN,Ky.V.eq_1,keyV,zV,zE,zs,b0,by0,ty0,hP,hg,h1,hpr,hU,hc0']
 repeat' with_reducible apply And.intro
 all_goals first|exact hk|exact zo|omega|(intro _;first|exact hk|exact zo|omega)|(refine RenC.skip ?_;simp only[↓bD,bQ,reduceMul,reduceLeDiff,reduceEqDiff,reduceLT,reduceAdd,reduceSub,↓reduceIte,reduceCtorEq,reduceToNat,reducePow,Nat.reduceBEq,reduceDiv])
theorem one_ft (J:Inv) (hJ: ∀w F,J.I w F→JV.I w F) (hE:EdT J) (b t:List UInt8) (hb:b.length≤1048576) (ht:t.length≤1048576) (c:Int) (hP:parK b=(z0,c)) (hc0:(c==0)=false) (hc:(!(c==80)&& !(c==90)&& !(c==10))=false) (kty' crv':Int) (s' n' e' x' y':List UInt8) (hU:unF t=(⟨kty',crv',s',n',e',x',y'⟩,0)) (hk':(Ky.mk kty' crv' s' n' e' x' y').Ok) (hpm:(Ky.mk kty' crv' s' n' e' x' y').pem=(t,0)):FnH Tryz.prog J 5 [.by b, .str t] [] 0 (.bb true) [] 9:=by
 refine fnJ Tryz.func5 rfl (by kernel_rfl) (LOa_ok J hJ hE) rfl ?_
 unfold Tryz.f5
 have zV:z0.V= .st [.i 0, .i 0, .by [], .by [], .by [], .by [], .by []]:=rfl
 have zE:(⟨0,0,[],[],[],[],[]⟩:Ky)=z0:=rfl
 have zo:=z0_ok
 have zs:skB z0 z0=true:=skB_self _
 have b0:((0:Int)==0)=true:=rfl
 have by0:(b==b)=true:=beq_self_eq_true b
 have ty0:(t==t)=true:=beq_self_eq_true t
 simp only[↓bD,bQ,reduceMul,reduceLeDiff,reduceEqDiff,reduceLT,reduceAdd,reduceSub,↓reduceIte,reduceCtorEq,reduceToNat,reducePow,Nat.reduceBEq,reduceDiv,LOa,LOaf,LKbf,LKaf,cK,cKK,keyW,byN,Ky.V.eq_1,keyV,zV,zE,zs,b0,by0,ty0,hP,hc0,hc,hU,hpm]
 repeat' with_reducible apply And.intro
 all_goals first|exact hk'|exact zo|omega|(intro _;first|exact hk'|exact zo|omega)|(refine RenC.skip ?_;simp only[↓bD,bQ,reduceMul,reduceLeDiff,reduceEqDiff,reduceLT,reduceAdd,reduceSub,↓reduceIte,reduceCtorEq,reduceToNat,reducePow,Nat.reduceBEq,reduceDiv])
theorem one_ff (J:Inv) (hJ: ∀w F,J.I w F→JV.I w F) (hE:EdT J) (b t:List UInt8) (hb:b.length≤1048576) (ht:t.length≤1048576) (c:Int) (hP:parK b=(z0,c)) (hc0:(c==0)=false) (hc:(!(c==80)&& !(c==90)&& !(c==10))=false) (c':Int) (hU:unF t=(z0,c')) (hc0':(c'==0)=false):FnH Tryz.prog J 5 [.by b, .str t] [] 0 (.bb true) [] 9:=by
 refine fnJ Tryz.func5 rfl (by kernel_rfl) (LOa_ok J hJ hE) rfl ?_
 unfold Tryz.f5
 have zV:z0.V= .st [.i 0, .i 0, .by [], .by [], .by [], .by [], .by []]:=rfl
 have zE:(⟨0,0,[],[],[],[],[]⟩:Ky)=z0:=rfl
 have zo:=z0_ok
 have zs:skB z0 z0=true:=skB_self _
 have b0:((0:Int)==0)=true:=rfl
 have by0:(b==b)=true:=beq_self_eq_true b
 have ty0:(t==t)=true:=beq_self_eq_true t
 simp only[↓bD,bQ,reduceMul,reduceLeDiff,reduceEqDiff,reduceLT,reduceAdd,reduceSub,↓reduceIte,reduceCtorEq,reduceToNat,reducePow,Nat.reduceBEq,reduceDiv,LOa,LOaf,LKbf,LKaf,cK,cKK,keyW,byN,Ky.V.eq_1,keyV,zV,zE,zs,b0,by0,ty0,hP,hc0,hc,hU,hc0']
 repeat' with_reducible apply And.intro
 all_goals first|exact zo|omega|(intro _;first|exact zo|omega)|(refine RenC.skip ?_;simp only[↓bD,bQ,reduceMul,reduceLeDiff,reduceEqDiff,reduceLT,reduceAdd,reduceSub,↓reduceIte,reduceCtorEq,reduceToNat,reducePow,Nat.reduceBEq,reduceDiv])
theorem SpkiOne_fn (J:Inv) (hJ: ∀w F,J.I w F→JV.I w F) (hE:EdT J) (b:List UInt8) (hb:b.length≤1048576) (t:List UInt8) (ht:t.length≤1048576):Fn Tryz.prog J 5 false [.by b, .str t] (.bb true):=by
 have pk:=parK_ok b
 have uk:=unF_ok t
 refine Fn.of_plain (nx:=9) (post:=[]) ?_ rfl
 rcases hP:parK b with ⟨⟨kty,crv,s,n,e,x,y⟩,c⟩
 rcases hU:unF t with ⟨⟨kty',crv',s',n',e',x',y'⟩,c'⟩
 rw[hP] at pk
 rw[hU] at uk
 by_cases hc:c=0
 ·subst hc
  obtain⟨g1,g2,g3⟩:=forth (b:=b) (by rw[hP])
  rw[hP] at g1 g2 g3
  have hg:chkC (Ky.mk kty crv s n e x y).good=0:=by unfold chkC;rw[if_pos g1]
  have h1:(kty==1)=false:=beq_eq_false_iff_ne.2 g2
  by_cases hc':c'=0
  ·subst hc'
   have hpm:=forth_pem (t:=t) (by rw[hU])
   rw[hU] at hpm
   exact one_tt J hJ hE b t hb ht _ _ _ _ _ _ _ hP pk hg h1 g3 _ _ _ _ _ _ _ hU uk hpm
  ·have hz:=unF_no (t:=t) (by rw[hU];exact hc')
   rw[hU] at hz
   exact one_tf J hJ hE b t hb ht _ _ _ _ _ _ _ hP pk hg h1 g3 c' (by rw[hU];exact Prod.ext hz rfl) (beq_eq_false_iff_ne.2 hc')
 ·obtain⟨hz,hz2⟩:=parK_no (b:=b) (by rw[hP];exact hc)
  rw[hP] at hz hz2
  have hP2:parK b=(z0,c):=by rw[hP];exact Prod.ext hz rfl
  have hc3:(!(c==80)&& !(c==90)&& !(c==10))=false:=by
   have hz2:c=80∨c=90∨c=10:=hz2
   rcases hz2 with rfl|rfl|rfl<;>rfl
  by_cases hc':c'=0
  ·subst hc'
   have hpm:=forth_pem (t:=t) (by rw[hU])
   rw[hU] at hpm
   exact one_ft J hJ hE b t hb ht c hP2 (beq_eq_false_iff_ne.2 hc) hc3 _ _ _ _ _ _ _ hU uk hpm
  ·have hz':=unF_no (t:=t) (by rw[hU];exact hc')
   rw[hU] at hz'
   exact one_ff J hJ hE b t hb ht c hP2 (beq_eq_false_iff_ne.2 hc) hc3 c' (by rw[hU];exact Prod.ext hz' rfl) (beq_eq_false_iff_ne.2 hc')
end Go.Proofs.YtfengpdaocgcnaaGreatDoor
