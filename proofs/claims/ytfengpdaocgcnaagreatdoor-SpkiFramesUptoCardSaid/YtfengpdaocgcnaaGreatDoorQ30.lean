/- Ed25519: the point of 32 bytes. Whole numbers of any size (bignum): the walks of the numbers with a sign. The parts of an RSA key. -/
import Derived.Test.YtfengpdaocgcnaaGreatDoorQ29
import Derived.Test.YtfengpdaocgcnaaGreatDoorQ28
import Derived.Test.YtfengpdaocgcnaaGreatDoorQ24
namespace Go.Proofs.YtfengpdaocgcnaaGreatDoor
open Nat (reduceMul reduceLeDiff reduceEqDiff reduceLT reduceAdd reduceSub reduceDiv)
open Int (reduceToNat reducePow)
open Go.RowKit
set_option linter.unusedSimpArgs false
set_option maxRecDepth 100000
def edYb (b:List UInt8):Nat:=leN (b.set 31 (u8 (bt .and .u8 (byteAt b 31) 127)))
def edOdd (b:List UInt8):Bool:= !(bt .and .u8 (byteAt b 31) 128==0)
def edOk (b:List UInt8):Bool:=decide (b.length=32)&&(decide (edYb b<p25519)&& !edBad (edYb b) (edOdd b))
def edPt (b:List UInt8):V:=if edOk b=true then .st [wV (dg (edX2 (edYb b) (edOdd b))),wV (dg (edYb b)), .bb false] else .st [.val (.slice none 0 0), .val (.slice none 0 0), .bb false]
def edCo (b:List UInt8):Int:=if edOk b=true then 0 else 93
theorem edPt_cl (b:List UInt8):(edPt b).cl=true:=by unfold edPt;split<;>simp[V.cl,clL,wV,wds_cl]
def SGe4f:FuncId→List V→CR:=fun f args=>tab [(101,cW fun y=>cB fun odd=>cF [y=dg (vl y),vl y<p25519] false (.tu [wV (dg (if edBad (vl y) odd then 0 else edX2 (vl y) odd)), .bb (!edBad (vl y) odd)]))] SGe3f f args
def SGe4 (J:Inv):Sig:=⟨J,sdf,SGe4f,noH,0⟩
theorem SGe4_ok (J:Inv) (hJ:EdT J):SigOk Tryz.prog (SGe4 J):= .plain (tab_ok (.c (.w fun y=> .b fun odd=> .z fun⟨c0,c1,_⟩=>(by have h:=abscissa_fn J hJ (vl y) odd c1;rwa [←c0] at h))<| .n) (SGe3_ok J hJ).1)
def SGe5 (J:Inv):Sig:=⟨J,sdf,SGe4f,SGnh,0⟩
theorem SGe5_ok (J:Inv) (hJ:EdT J):SigOk Tryz.prog (SGe5 J):=⟨(SGe4_ok J hJ).1,SGnh_ok J⟩
theorem and_u8 {a b:Nat} (ha:a<256) (hb:b<256):bt .and .u8 (a:Int) (b:Int)=((a&&&b:Nat):Int):=by
 rw[bt_eq]
 have hx:a&&&b<2^8:=Nat.and_lt_two_pow _ (by omega)
 have h1:(BitVec.ofInt 8 (a:Int)).toNat=a:=by rw[BitVec.ofInt_natCast,BitVec.toNat_ofNat];exact Nat.mod_eq_of_lt (by omega)
 have h2:(BitVec.ofInt 8 (b:Int)).toNat=b:=by rw[BitVec.ofInt_natCast,BitVec.toNat_ofNat];exact Nat.mod_eq_of_lt (by omega)
 show IntKind.u8.wrap ((BitVec.ofInt 8 (a:Int)&&&BitVec.ofInt 8 (b:Int)).toNat:Int)=_
 rw[BitVec.toNat_and,h1,h2,show∀n:Int,IntKind.u8.wrap n=n%256 from fun n=>rfl]
 omega
theorem and127 (l:List UInt8) (i:Nat):0≤bt .and .u8 (byteAt l i) 127∧bt .and .u8 (byteAt l i) 127<256:=by
 have h:=and_u8 (a:=(l.getD i 0).toNat) (b:=127) (l.getD i 0).toNat_lt (by omega)
 have h2:(l.getD i 0).toNat&&&127<2^8:=Nat.and_lt_two_pow _ (by omega)
 have e:byteAt l i=(((l.getD i 0).toNat:Nat):Int):=rfl
 rw[e,show(127:Int)=((127:Nat):Int) from rfl,h]
 omega
theorem cmp3_ge {x y:Nat}:decide (0≤cmp3 x y)=decide (y≤x):=by
 unfold cmp3
 by_cases h:x<y
 ·rw[if_pos h,decide_eq_false (by omega),decide_eq_false (by omega)]
 ·rw[if_neg h]
  by_cases h2:y<x
  ·rw[if_pos h2,decide_eq_true (by omega),decide_eq_true (by omega)]
  ·rw[if_neg h2,decide_eq_true (by omega),decide_eq_true (by omega)]
theorem decode_fn (J:Inv) (hJ:EdT J) (b:List UInt8):Fn Tryz.prog J 58 false [.by b] (.tu [edPt b, .i (edCo b)]):=by
 refine Fn.of_plain (nx:=10) (post:=[]) ?_ (by have:=edPt_cl b;simp[V.cl,clL,V.i,this])
 refine fnC Tryz.func58 rfl (by kernel_rfl) (SGe5_ok J hJ) rfl ?_
 unfold Tryz.f58
 simp only[↓bD,bQ,reduceMul,reduceLeDiff,reduceEqDiff,reduceLT,reduceAdd,reduceSub,↓reduceIte,reduceCtorEq,reduceToNat,reducePow,Nat.reduceBEq,reduceDiv,SGe5,SGe4f,SGe3f,SGe2f,SGe2af,SGnh,List.length_set,cmp3_ge]
 have hY:leN (b.set 31 (u8 (bt .and .u8 (byteAt b 31) 127)))=edYb b:=rfl
 have hO:(!bt .and .u8 (byteAt b 31) 128==0)=edOdd b:=rfl
 rw[hY,hO]
 have hbad: ∀{c:Bool},edOk b=c→c=false→edPt b= .st [.val (.slice none 0 0), .val (.slice none 0 0), .bb false]∧edCo b=93:=fun h1 h2=>by
  subst h2
  unfold edPt edCo
  rw[h1]
  exact⟨rfl,rfl⟩
 refine⟨fun h=> ?_,fun h=> ?_⟩
 ·have h1:b.length≠32:=by
   rw[Bool.not_eq_true',beq_eq_false_iff_ne] at h;omega
  obtain⟨e1,e2⟩:=hbad (c:=false) (by unfold edOk;rw[decide_eq_false h1];rfl) rfl
  rw[e1,e2]
  refine .inl ?_
  simp only[↓bD,bQ,reduceMul,reduceLeDiff,reduceEqDiff,reduceLT,reduceAdd,reduceSub,↓reduceIte,reduceCtorEq,reduceToNat,reducePow,Nat.reduceBEq,reduceDiv]
 ·have h1:b.length=32:=by
   rw[Bool.not_eq_false',beq_iff_eq] at h;omega
  have hk:=and127 b 31
  have hlt:(dg (edYb b)).length≤1073741824:=by
   have h2:=leN_lt (b.set 31 (u8 (bt .and .u8 (byteAt b 31) 127)))
   rw[hY,List.length_set,h1,show(256:Nat)^32=4294967296^8 by decide] at h2
   have:=dg_len h2
   omega
  have hpl:=p_len
  refine⟨by omega,by omega,by omega,by omega,by omega,by omega,by omega,by omega,by omega,by omega,by omega,hk.1,hk.2,by omega,by omega,hlt,by omega,fun h2=> ?_,fun h2=>⟨by rw[decide_eq_false_iff_not] at h2;omega,fun h3=> ?_,fun h3=> ?_⟩⟩
  ·rw[decide_eq_true_eq] at h2
   obtain⟨e1,e2⟩:=hbad (c:=false) (by unfold edOk;rw[decide_eq_false (show ¬edYb b<p25519 by omega)];simp) rfl
   rw[e1,e2]
   refine .inl ?_
   simp only[↓bD,bQ,reduceMul,reduceLeDiff,reduceEqDiff,reduceLT,reduceAdd,reduceSub,↓reduceIte,reduceCtorEq,reduceToNat,reducePow,Nat.reduceBEq,reduceDiv]
  ·rw[Bool.not_not] at h3
   obtain⟨e1,e2⟩:=hbad (c:=false) (by unfold edOk;rw[h3];simp) rfl
   rw[e1,e2]
   refine .inl ?_
   simp only[↓bD,bQ,reduceMul,reduceLeDiff,reduceEqDiff,reduceLT,reduceAdd,reduceSub,↓reduceIte,reduceCtorEq,reduceToNat,reducePow,Nat.reduceBEq,reduceDiv]
  ·rw[Bool.not_not] at h3
   rw[decide_eq_false_iff_not] at h2
   have hok:edOk b=true:=by unfold edOk;rw[h3,decide_eq_true h1,decide_eq_true (show edYb b<p25519 by omega)];rfl
   have e1:edPt b= .st [wV (dg (edX2 (edYb b) (edOdd b))),wV (dg (edYb b)), .bb false]:=by unfold edPt;rw[hok];rfl
   have e2:edCo b=0:=by unfold edCo;rw[hok];rfl
   rw[e1,e2,h3,if_neg (by simp)]
   refine .inl ?_
   simp only[↓bD,bQ,reduceMul,reduceLeDiff,reduceEqDiff,reduceLT,reduceAdd,reduceSub,↓reduceIte,reduceCtorEq,reduceToNat,reducePow,Nat.reduceBEq,reduceDiv]
theorem give_fn (J:Inv) (k nx:Nat) (b:Bool) (a:List Nat) (b0 v0:V):FnH Tryz.prog J 153 [.op k 0, .bb b,wV a] [(k, .box 142 (.st [b0,v0]))] nx (.op k 0) [(k, .box 142 (.st [.bb (b&&decide (0<a.length)),wV a]))] nx:=by
 refine fnJ Tryz.func153 rfl (by kernel_rfl) (SGbb_ok J nx) rfl ?_
 unfold Tryz.f153
 simp only[↓bD,bQ,reduceMul,reduceLeDiff,reduceEqDiff,reduceLT,reduceAdd,reduceSub,↓reduceIte,reduceCtorEq,reduceToNat,reducePow,Nat.reduceBEq,reduceDiv,SGbb,SGbf]
 refine .inl ?_
 simp only[↓bD,bQ,reduceMul,reduceLeDiff,reduceEqDiff,reduceLT,reduceAdd,reduceSub,↓reduceIte,reduceCtorEq,reduceToNat,reducePow,Nat.reduceBEq,reduceDiv]
 have e:decide (0<(a.length:Int))=decide (0<a.length):=by by_cases h:0<a.length<;>simp[h]
 rw[e]
 cases b<;>exact⟨rfl,Nat.le_refl _⟩
def sumB (xn:Bool) (a:Nat) (yn:Bool) (b:Nat):Bool:=if xn=yn then xn else if b≤a then xn else yn
def sumN (xn:Bool) (a:Nat) (yn:Bool) (b:Nat):Nat:=if xn=yn then a+b else if b≤a then a-b else b-a
def SBmf:FuncId→List V→CR:=fun f args=>tab [(150,cW fun a=>cW fun b=>cF [a.length≤67108864,b.length≤67108864,W32 a,W32 b] false (wV (dg (vl a+vl b)))),
 (236,cW fun a=>cW fun b=>cF [a.length≤67108864,b.length≤a.length,W32 a,W32 b,vl b≤vl a] false (wV (dg (vl a-vl b)))),
 (233,cW fun a=>cW fun b=>cF [a.length≤67108864,b.length≤67108864,W32 a,W32 b] false (wV (dg (vl a*vl b)))),
 (203,cW fun a=>cW fun b=>cF [Pr a,Pr b] false (.i (cmp3 (vl a) (vl b)))),
 (152,cI .u64 fun n=>cF [0≤n,n<18446744073709551616] false (wV (dg n.toNat)))] noF f args
def SBm (J:Inv):Sig:=⟨J,sdf,SBmf,noH,0⟩
theorem SBm_ok (J:Inv):SigOk Tryz.prog (SBm J):= .plain (tab_ok (.c (.w fun a=> .w fun b=> .z fun⟨c0,c1,c2,c3,_⟩=>badd_fn J a b c0 c1 c2 c3)<|
 .c (.w fun a=> .w fun b=> .z fun⟨c0,c1,c2,c3,c4,_⟩=>bsub_fn J a b c0 c1 c2 c3 c4)<|
 .c (.w fun a=> .w fun b=> .z fun⟨c0,c1,c2,c3,_⟩=>bmul_fn J a b c0 c1 c2 c3)<|
 .c (.w fun a=> .w fun b=> .z fun⟨c0,c1,_⟩=>bcmp_fn J a b c0 c1)<|
 .c (.i fun n=> .z fun⟨c0,_,_⟩=>(by have h:=words_fn J n.toNat (by omega);rwa [Int.toNat_of_nonneg c0] at h))<| .n) noF_ok)
theorem div_pr (J:Inv) (a b:List Nat) (ha:Pr a) (hb:Pr b) (h3:3≤b.length) (h4:a.length≤1000000) (h5:b.length≤1000000):Fn Tryz.prog J 270 false [wV a,wV b] (.tu [wV (dg (vl a/vl b)),wV (dg (vl a%vl b))]):=by
 have h:=div_fn J (vl a) (vl b) (b.length-2) (by rw[←hb.eq];omega) (by omega) (by omega) (by rw[←ha.eq];exact h4)
 rwa [←ha.eq,←hb.eq] at h
def SBnf:FuncId→List V→CR:=fun f args=>tab [(269,cW fun a=>cF [Pr a] false (wV (dg (vl a)))),
 (151,cW fun a=>cI .u64 fun n=>cF [0≤n,n<32,a.length≤67108864,W32 a] false (wV (dg (vl a*2^n.toNat)))),
 (270,cW fun a=>cW fun b=>cF [Pr a,Pr b,3≤b.length,a.length≤1000000,b.length≤1000000] false (.tu [wV (dg (vl a/vl b)),wV (dg (vl a%vl b))]))] SBmf f args
def SBn (J:Inv):Sig:=⟨J,sdf,SBnf,noH,0⟩
theorem SBn_ok (J:Inv):SigOk Tryz.prog (SBn J):= .plain (tab_ok (.c (.w fun a=> .z fun⟨c0,_⟩=>Fn.res_eq (r':=wV (dg (vl a))) (twin_fn J a (by have:=c0.len;omega)) (by rw[←c0.eq]))<|
 .c (.w fun a=> .i fun n=> .z fun⟨c0,_,c2,c3,_⟩=>(by have h:=left_fn J a n.toNat (by omega) c2 c3;rwa [Int.toNat_of_nonneg c0] at h))<|
 .c (.w fun a=> .w fun b=> .z fun⟨c0,c1,c2,c3,c4,_⟩=>div_pr J a b c0 c1 c2 c3 c4)<| .n) (SBm_ok J).1)
theorem sum_fn (J:Inv) (xn yn:Bool) (a b:List Nat) (ha:Pr a) (hb:Pr b):Fn Tryz.prog J 202 false [.bb xn,wV a, .bb yn,wV b] (.tu [.bb (sumB xn (vl a) yn (vl b)),wV (dg (sumN xn (vl a) yn (vl b)))]):=by
 refine fnI Tryz.func202 rfl (by kernel_rfl) (by simp[V.cl,clL,wV,wds_cl]) (SBn_ok J) ?_
 unfold Tryz.f202
 simp only[↓bD,bQ,reduceMul,reduceLeDiff,reduceEqDiff,reduceLT,reduceAdd,reduceSub,↓reduceIte,reduceCtorEq,reduceToNat,reducePow,Nat.reduceBEq,reduceDiv,SBn,SBnf,SBmf]
 have la:=ha.len
 have lb:=hb.len
 have wa:=ha.w
 have wb:=hb.w
 refine⟨fun h=> ?_,fun h=>⟨ha,hb,fun h2=> ?_,fun h2=> ?_⟩⟩
 ·have h:xn=yn:=by simpa using h
  unfold sumB sumN
  rw[if_pos h,if_pos h]
  exact⟨by omega,by omega,wa,wb,rfl,rfl⟩
 ·have h: ¬xn=yn:=by simpa using h
  rw[cmp3_ge,decide_eq_true_eq] at h2
  have hl:=dg_mono h2
  rw[←ha.eq,←hb.eq] at hl
  unfold sumB sumN
  rw[if_neg h,if_neg h,if_pos h2,if_pos h2]
  exact⟨by omega,hl,wa,wb,h2,rfl,rfl⟩
 ·have h: ¬xn=yn:=by simpa using h
  rw[cmp3_ge,decide_eq_false_iff_not] at h2
  have hl:=dg_mono (Nat.le_of_not_le h2)
  rw[←ha.eq,←hb.eq] at hl
  unfold sumB sumN
  rw[if_neg h,if_neg h,if_neg h2,if_neg h2]
  exact⟨by omega,hl,wb,wa,Nat.le_of_not_le h2,rfl,rfl⟩
def SBgh:FuncId→List V→List (Nat×Ob)→Nat→Option CallH:=fun f args h nx=>
 if f=153 then match args with
  |[.op k 0, .bb b, .sq 1 d L]=>match Hroot h k with
   |some (.box ty (.st [b0,v0]))=>some ⟨[ty=142,d= .val (.int .u32 0),L=wds (unW L)],[],[(k, .box 142 (.st [b0,v0]))], .op k 0,[(k, .box 142 (.st [.bb (b&&decide (0<(unW L).length)),wV (unW L)]))],nx⟩
   |_=>none
  |_=>none
 else none
theorem SBgh_ok (J:Inv) (f:FuncId) (args:List V) (h:List (Nat×Ob)) (nx:Nat) (c:CallH) (hc:SBgh f args h nx=some c) (hl:AllP c.l):FnH Tryz.prog J f (mixA h c.bw args).1 c.pre nx c.res c.post c.nx:=by
 unfold SBgh at hc
 split at hc
 ·rename_i hf;subst hf
  split at hc
  ·rename_i k b d L
   split at hc
   ·rename_i ty b0 v0 hk
    obtain rfl:=Option.some.inj hc
    have q1:ty=142:=hl _ (by simp)
    have q2:d= .val (.int .u32 0):=hl _ (by simp)
    have q3:L=wds (unW L):=hl _ (by simp)
    subst q1 q2
    have hp:=give_fn J k nx b (unW L) b0 v0
    rw[show wV (unW L)= .sq 1 (.val (.int .u32 0)) L by unfold wV;rw[←q3]] at hp⊢
    exact hp
   ·exact absurd hc (by simp)
  ·exact absurd hc (by simp)
 ·exact absurd hc (by simp)
def SBsf:FuncId→List V→CR:=fun f args=>tab [(202,cB fun xn=>cW fun a=>cB fun yn=>cW fun b=>cF [Pr a,Pr b] false (.tu [.bb (sumB xn (vl a) yn (vl b)),wV (dg (sumN xn (vl a) yn (vl b)))]))] SBnf f args
def SBs (J:Inv):Sig:=⟨J,sdf,SBsf,noH,0⟩
theorem SBs_ok (J:Inv):SigOk Tryz.prog (SBs J):= .plain (tab_ok (.c (.b fun xn=> .w fun a=> .b fun yn=> .w fun b=> .z fun⟨c0,c1,_⟩=>sum_fn J xn yn a b c0 c1)<| .n) (SBn_ok J).1)
def SBi (J:Inv) (b:Nat):Sig:=⟨J,sdf,SBsf,SBgh,b⟩
theorem SBi_ok (J:Inv) (b:Nat):SigOk Tryz.prog (SBi J b):=⟨(SBs_ok J).1,SBgh_ok J⟩
section
variable (J:Inv) (k nx:Nat) (b0 v0:V)
theorem bMul_fn (x y:Nat) (hx:(dg x).length≤100000) (hy:(dg y).length≤100000):FnH Tryz.prog J 198 [.op k 0,pN x,pN y] [(k, .box 142 (.st [b0,v0]))] nx (.op k 0) [(k, .box 142 (bI false (x*y)))] nx:=by
 refine fnJ Tryz.func198 rfl (by kernel_rfl) (SBi_ok J nx) rfl ?_
 unfold Tryz.f198
 simp only[↓bD,bQ,reduceMul,reduceLeDiff,reduceEqDiff,reduceLT,reduceAdd,reduceSub,↓reduceIte,reduceCtorEq,reduceToNat,reducePow,Nat.reduceBEq,reduceDiv,SBi,SBsf,SBnf,SBmf,SBgh,pN,bI]
 refine DrawC.sch [(0,some []),(1,some []),(2,some []),(3,some []),(4,some []),(5,some []),(6,some []),(7,some []),(8,some []),(9,some []),(10,some []),(11,some []),(12,some []),(13,some []),(14,some []),(15,some []),(16,some []),(17,some []),(18,none),(19,none),(20,some [0,1])] [(19,[0,1])] (by kernel_rfl) ?_
 simp only[↓bD,bQ,reduceMul,reduceLeDiff,reduceEqDiff,reduceLT,reduceAdd,reduceSub,↓reduceIte,reduceCtorEq,reduceToNat,reducePow,Nat.reduceBEq,reduceDiv,SBi,SBsf,SBnf,SBmf,SBgh,pN,bI]
 refine⟨by omega,by omega, .inr trivial, .inl ?_⟩
 simp only[↓bD,bQ,reduceMul,reduceLeDiff,reduceEqDiff,reduceLT,reduceAdd,reduceSub,↓reduceIte,reduceCtorEq,reduceToNat,reducePow,Nat.reduceBEq,reduceDiv]
 exact Nat.le_refl _
theorem bSet_fn (x:Nat) (hx:(dg x).length≤100000):FnH Tryz.prog J 257 [.op k 0,pN x] [(k, .box 142 (.st [b0,v0]))] nx (.op k 0) [(k, .box 142 (bI false x))] nx:=by
 refine fnJ Tryz.func257 rfl (by kernel_rfl) (SBi_ok J nx) rfl ?_
 unfold Tryz.f257
 simp only[↓bD,bQ,reduceMul,reduceLeDiff,reduceEqDiff,reduceLT,reduceAdd,reduceSub,↓reduceIte,reduceCtorEq,reduceToNat,reducePow,Nat.reduceBEq,reduceDiv,SBi,SBsf,SBnf,SBmf,SBgh,pN,bI]
 refine DrawC.sch [(0,some []),(1,some []),(2,some []),(3,some []),(4,some []),(5,some []),(6,some []),(7,some []),(8,some []),(9,none),(10,none),(11,some [0,1])] [(10,[0,1])] (by kernel_rfl) ?_
 simp only[↓bD,bQ,reduceMul,reduceLeDiff,reduceEqDiff,reduceLT,reduceAdd,reduceSub,↓reduceIte,reduceCtorEq,reduceToNat,reducePow,Nat.reduceBEq,reduceDiv,SBi,SBsf,SBnf,SBmf,SBgh,pN,bI]
 refine⟨.of (by omega), .inr trivial, .inl ?_⟩
 simp only[↓bD,bQ,reduceMul,reduceLeDiff,reduceEqDiff,reduceLT,reduceAdd,reduceSub,↓reduceIte,reduceCtorEq,reduceToNat,reducePow,Nat.reduceBEq,reduceDiv]
 exact Nat.le_refl _
end
theorem sub_sign (x y:Nat):(sumB false x true y&&decide (0<(dg (sumN false x true y)).length))=decide (x<y)∧sumN false x true y=if y≤x then x-y else y-x:=by
 unfold sumB sumN
 simp only[Bool.false_eq_true,if_false]
 by_cases h:y≤x
 ·simp only[if_pos h,Bool.false_and]
  exact⟨(decide_eq_false (by omega)).symm,trivial⟩
 ·simp only[if_neg h,Bool.true_and]
  refine⟨?_,trivial⟩
  rw[decide_eq_true (show x<y by omega)]
  exact decide_eq_true (Nat.pos_of_ne_zero fun e=>by have:=dg_eq_nil.1 (List.length_eq_zero_iff.1 e);omega)
theorem bSub_fn (J:Inv) (k nx:Nat) (b0 v0:V) (x y:Nat) (hx:(dg x).length≤100000) (hy:(dg y).length≤100000):FnH Tryz.prog J 199 [.op k 0,pN x,pN y] [(k, .box 142 (.st [b0,v0]))] nx (.op k 0) [(k, .box 142 (bI (decide (x<y)) (if y≤x then x-y else y-x)))] nx:=by
 refine fnJ Tryz.func199 rfl (by kernel_rfl) (SBi_ok J nx) rfl ?_
 unfold Tryz.f199
 simp only[↓bD,bQ,reduceMul,reduceLeDiff,reduceEqDiff,reduceLT,reduceAdd,reduceSub,↓reduceIte,reduceCtorEq,reduceToNat,reducePow,Nat.reduceBEq,reduceDiv,SBi,SBsf,SBnf,SBmf,SBgh,pN,bI]
 refine DrawC.sch [(0,some []),(1,some []),(2,some []),(3,some []),(4,some []),(5,some []),(6,some []),(7,some []),(8,some []),(9,some []),(10,some []),(11,some []),(12,some []),(13,some []),(14,some []),(15,some []),(16,some []),(17,some []),(18,none),(19,some []),(20,some []),(21,none),(22,some [0,1])] [(21,[0,1])] (by kernel_rfl) ?_
 simp only[↓bD,bQ,reduceMul,reduceLeDiff,reduceEqDiff,reduceLT,reduceAdd,reduceSub,↓reduceIte,reduceCtorEq,reduceToNat,reducePow,Nat.reduceBEq,reduceDiv,SBi,SBsf,SBnf,SBmf,SBgh,pN,bI]
 refine⟨.of (by omega), .of (by omega), .inr trivial, .inl ?_⟩
 obtain⟨e1,e2⟩:=sub_sign x y
 rw[e1,e2]
 simp only[↓bD,bQ,reduceMul,reduceLeDiff,reduceEqDiff,reduceLT,reduceAdd,reduceSub,↓reduceIte,reduceCtorEq,reduceToNat,reducePow,Nat.reduceBEq,reduceDiv]
 exact Nat.le_refl _
theorem bSubO_fn (J:Inv) (k nx:Nat) (bx:Bool) (x y:Nat) (hx:(dg x).length≤100000) (hy:(dg y).length≤100000):FnH Tryz.prog J 199 [.op k 0, .op k 0,pN y] [(k, .box 142 (bI bx x))] nx (.op k 0) [(k, .box 142 (bI (sumB bx x true y&&decide (0<(dg (sumN bx x true y)).length)) (sumN bx x true y)))] nx:=by
 refine fnJ Tryz.func199 rfl (by kernel_rfl) (SBi_ok J nx) rfl ?_
 unfold Tryz.f199
 simp only[↓bD,bQ,reduceMul,reduceLeDiff,reduceEqDiff,reduceLT,reduceAdd,reduceSub,↓reduceIte,reduceCtorEq,reduceToNat,reducePow,Nat.reduceBEq,reduceDiv,SBi,SBsf,SBnf,SBmf,SBgh,pN,bI]
 refine DrawC.sch [(0,some []),(1,some []),(2,some []),(3,some []),(4,some []),(5,some []),(6,some []),(7,some []),(8,some []),(9,some []),(10,some []),(11,some []),(12,some []),(13,some []),(14,some []),(15,some []),(16,some []),(17,some []),(18,none),(19,some []),(20,some []),(21,none),(22,some [0,1])] [(21,[0,1])] (by kernel_rfl) ?_
 simp only[↓bD,bQ,reduceMul,reduceLeDiff,reduceEqDiff,reduceLT,reduceAdd,reduceSub,↓reduceIte,reduceCtorEq,reduceToNat,reducePow,Nat.reduceBEq,reduceDiv,SBi,SBsf,SBnf,SBmf,SBgh,pN,bI]
 refine⟨.of (by omega), .of (by omega), .inr trivial, .inl ?_⟩
 simp only[↓bD,bQ,reduceMul,reduceLeDiff,reduceEqDiff,reduceLT,reduceAdd,reduceSub,↓reduceIte,reduceCtorEq,reduceToNat,reducePow,Nat.reduceBEq,reduceDiv]
 exact Nat.le_refl _
theorem bAddP_fn (J:Inv) (k nx:Nat) (bx:Bool) (x y:Nat) (hx:(dg x).length≤100000) (hy:(dg y).length≤100000):FnH Tryz.prog J 148 [.op k 0, .op k 0,pN y] [(k, .box 142 (bI bx x))] nx (.op k 0) [(k, .box 142 (bI (sumB bx x false y&&decide (0<(dg (sumN bx x false y)).length)) (sumN bx x false y)))] nx:=by
 refine fnJ Tryz.func148 rfl (by kernel_rfl) (SBi_ok J nx) rfl ?_
 unfold Tryz.f148
 simp only[↓bD,bQ,reduceMul,reduceLeDiff,reduceEqDiff,reduceLT,reduceAdd,reduceSub,↓reduceIte,reduceCtorEq,reduceToNat,reducePow,Nat.reduceBEq,reduceDiv,SBi,SBsf,SBnf,SBmf,SBgh,pN,bI]
 refine DrawC.sch [(0,some []),(1,some []),(2,some []),(3,some []),(4,some []),(5,some []),(6,some []),(7,some []),(8,some []),(9,some []),(10,some []),(11,some []),(12,some []),(13,some []),(14,some []),(15,some []),(16,some []),(17,none),(18,some []),(19,some []),(20,none),(21,some [0,1])] [(20,[0,1])] (by kernel_rfl) ?_
 simp only[↓bD,bQ,reduceMul,reduceLeDiff,reduceEqDiff,reduceLT,reduceAdd,reduceSub,↓reduceIte,reduceCtorEq,reduceToNat,reducePow,Nat.reduceBEq,reduceDiv,SBi,SBsf,SBnf,SBmf,SBgh,pN,bI]
 refine⟨.of (by omega), .of (by omega), .inr trivial, .inl ?_⟩
 simp only[↓bD,bQ,reduceMul,reduceLeDiff,reduceEqDiff,reduceLT,reduceAdd,reduceSub,↓reduceIte,reduceCtorEq,reduceToNat,reducePow,Nat.reduceBEq,reduceDiv]
 exact Nat.le_refl _
theorem bAddO_fn (J:Inv) (k nx:Nat) (k2:Nat) (h1:(k=k2)=False) (bx:Bool) (x y:Nat) (hx:(dg x).length≤100000) (hy:(dg y).length≤100000):FnH Tryz.prog J 148 [.op k 0, .op k 0, .op k2 0] [(k, .box 142 (bI bx x)),(k2, .box 142 (bI false y))] nx (.op k 0) [(k, .box 142 (bI (sumB bx x false y&&decide (0<(dg (sumN bx x false y)).length)) (sumN bx x false y))),(k2, .box 142 (bI false y))] nx:=by
 refine fnJ Tryz.func148 rfl (by kernel_rfl) (SBi_ok J nx) rfl ?_
 unfold Tryz.f148
 simp only[↓bD,bQ,reduceMul,reduceLeDiff,reduceEqDiff,reduceLT,reduceAdd,reduceSub,↓reduceIte,reduceCtorEq,reduceToNat,reducePow,Nat.reduceBEq,reduceDiv,SBi,SBsf,SBnf,SBmf,SBgh,pN,bI,h1]
 refine DrawC.sch [(0,some []),(1,some []),(2,some []),(3,some []),(4,some []),(5,some []),(6,some []),(7,some []),(8,some []),(9,some []),(10,some []),(11,some []),(12,some []),(13,some []),(14,some []),(15,some []),(16,some []),(17,none),(18,some []),(19,some []),(20,none),(21,some [0,1])] [(20,[0,1])] (by kernel_rfl) ?_
 simp only[↓bD,bQ,reduceMul,reduceLeDiff,reduceEqDiff,reduceLT,reduceAdd,reduceSub,↓reduceIte,reduceCtorEq,reduceToNat,reducePow,Nat.reduceBEq,reduceDiv,SBi,SBsf,SBnf,SBmf,SBgh,pN,bI,h1]
 refine⟨.of (by omega), .of (by omega), .inr trivial, .inl ?_⟩
 simp only[↓bD,bQ,reduceMul,reduceLeDiff,reduceEqDiff,reduceLT,reduceAdd,reduceSub,↓reduceIte,reduceCtorEq,reduceToNat,reducePow,Nat.reduceBEq,reduceDiv,h1]
 exact Nat.le_refl _
theorem bSetI_fn (J:Inv) (k nx:Nat) (b0 v0:V) (x:Nat) (hx:x<9223372036854775808):FnH Tryz.prog J 234 [.op k 0, .i x] [(k, .box 142 (.st [b0,v0]))] nx (.op k 0) [(k, .box 142 (bI false x))] nx:=by
 refine fnJ Tryz.func234 rfl (by kernel_rfl) (SBi_ok J nx) rfl ?_
 unfold Tryz.f234
 simp only[↓bD,bQ,reduceMul,reduceLeDiff,reduceEqDiff,reduceLT,reduceAdd,reduceSub,↓reduceIte,reduceCtorEq,reduceToNat,reducePow,Nat.reduceBEq,reduceDiv,SBi,SBsf,SBnf,SBmf,SBgh,pN,bI]
 have e:wr .u64 (x:Int)=x:=wr64n (by omega)
 rw[e]
 refine⟨fun h=>absurd h (by rw[decide_eq_true_eq];omega),fun _=>⟨by omega,by omega, .inl ?_⟩⟩
 have e2:decide ((x:Int)<0)=false:=decide_eq_false (by omega)
 simp only[↓bD,bQ,reduceMul,reduceLeDiff,reduceEqDiff,reduceLT,reduceAdd,reduceSub,↓reduceIte,reduceCtorEq,reduceToNat,reducePow,Nat.reduceBEq,reduceDiv,e2]
 exact Nat.le_refl _
theorem bCmp_fn (J:Inv) (x y:Nat) (hx:(dg x).length≤100000) (hy:(dg y).length≤100000):Fn Tryz.prog J 149 false [pN x,pN y] (.i (cmp3 x y)):=by
 refine fnI Tryz.func149 rfl (by kernel_rfl) rfl (SBs_ok J) ?_
 unfold Tryz.f149
 simp only[↓bD,bQ,reduceMul,reduceLeDiff,reduceEqDiff,reduceLT,reduceAdd,reduceSub,↓reduceIte,reduceCtorEq,reduceToNat,reducePow,Nat.reduceBEq,reduceDiv,SBs,SBsf,SBnf,SBmf,pN]
 refine DrawC.sch [(0,some []),(1,some []),(2,some []),(3,some []),(4,some []),(5,some []),(6,some []),(7,some []),(8,none),(9,some [])] [] (by kernel_rfl) ?_
 simp only[↓bD,bQ,reduceMul,reduceLeDiff,reduceEqDiff,reduceLT,reduceAdd,reduceSub,↓reduceIte,reduceCtorEq,reduceToNat,reducePow,Nat.reduceBEq,reduceDiv,SBs,SBsf,SBnf,SBmf,pN]
 exact⟨.of (by omega), .of (by omega)⟩
theorem uint_step {x:List Nat} {i:Nat} (hw:W32 x) (hi:i<x.length) (hl:x.length≤2):bt .or .u64 ((vl (x.take i):Nat):Int) (wr .u64 (wr .u64 ((x.getD i 0:Nat):Int)*2^(32*i)))=((vl (x.take (i+1)):Nat):Int):=by
 have h1:=hw.get i
 have h2:=vl_take_lt hw i
 have h3:=vl_take_succ x i
 have h4:=vl_take_lt hw (i+1)
 have h5:(2:Int)^(32*i)=((4294967296^i:Nat):Int):=by rw[B_pow];simp
 have h6:4294967296^(i+1)≤4294967296^2:=Nat.pow_le_pow_right (by omega) (by omega)
 rw[h5,wr64n (by omega),←Int.natCast_mul]
 rw[Nat.mul_comm (4294967296^i)] at h3
 have h7:x.getD i 0*4294967296^i<18446744073709551616:=by omega
 rw[wr64n h7,bt_eq,bits_or64 (by omega) h7]
 congr 1
 rw[h3,Nat.mul_comm,B_pow,or_add (by rw[←B_pow];exact h2)]
def SGr0f:FuncId→List V→CR:=fun f args=>tab [(141,cW fun a=>cF [a.length≤1073741824,W32 a] false (wV (dg (vl a))))] noF f args
def SGr0 (J:Inv):Sig:=⟨J,sdf,SGr0f,noH,0⟩
theorem SGr0_ok (J:Inv):SigOk Tryz.prog (SGr0 J):= .plain (tab_ok (.c (.w fun a=> .z fun⟨c0,c1,_⟩=>(by have h:=value_fn J a c0;rwa [trim_dg c1] at h))<| .n) noF_ok)
theorem uint_fn (J:Inv) (a:List Nat) (ha:a.length≤1073741824) (wa:W32 a):Fn Tryz.prog J 94 false [wV a] (.tu [.val (.int .u64 (if vl a<18446744073709551616 then vl a else 0:Nat)), .bb (decide (vl a<18446744073709551616))]):=by
 refine fnI Tryz.func94 rfl (by kernel_rfl) rfl (SGr0_ok J) ?_
 unfold Tryz.f94
 simp only[↓bD,bQ,reduceMul,reduceLeDiff,reduceEqDiff,reduceLT,reduceAdd,reduceSub,↓reduceIte,reduceCtorEq,reduceToNat,reducePow,Nat.reduceBEq,reduceDiv,SGr0,SGr0f]
 have hx:=W32_dg (vl a)
 have hv:=vl_dg (vl a)
 have hle:(dg (vl a)).length≤2↔vl a<18446744073709551616:=⟨fun h=>by have h1:=dg_hi (vl a);have h2:=Nat.pow_le_pow_right (n:=4294967296) (by omega) h;omega,fun h=>dg_len h⟩
 generalize dg (vl a)=x at *
 refine⟨ha,wa,fun h=> ?_,fun h=> ?_⟩
 ·have h1: ¬vl a<18446744073709551616:=fun e=>by have:=hle.2 e;rw[decide_eq_true_eq] at h;omega
  rw[if_neg h1,decide_eq_false h1]
  exact⟨rfl,rfl⟩
 ·have h2:x.length≤2:=by rw[decide_eq_false_iff_not] at h;omega
  have h1:=hle.1 h2
  rw[if_pos h1,decide_eq_true h1]
  refine LoopC.intro (α:=Nat) (fun i=>i≤x.length) (fun i=>⟨[(13,wV x),(14, .i x.length),(15, .i i),(5, .val (.int .u64 (vl (x.take i):Nat)))],[],0⟩) (fun i=>x.length-i) 0 (Nat.zero_le _) ?_ ?_
  ·simp only[↓bD,bQ,reduceMul,reduceLeDiff,reduceEqDiff,reduceLT,reduceAdd,reduceSub,↓reduceIte,reduceCtorEq,reduceToNat,reducePow,Nat.reduceBEq,reduceDiv]
   exact⟨rfl,rfl⟩
  ·intro i hi
   simp only[↓bD,bQ,reduceMul,reduceLeDiff,reduceEqDiff,reduceLT,reduceAdd,reduceSub,↓reduceIte,reduceCtorEq,reduceToNat,reducePow,Nat.reduceBEq,reduceDiv,SGr0,SGr0f]
   refine⟨fun hb=> ?_,fun hb=> ?_⟩
   ·have hb:i<x.length:=by simpa using hb
    have hs:=uint_step hx hb h2
    refine⟨by omega,by omega,by constructor<;>omega,by omega,by constructor<;>omega,Again.intro (i+1) hb (by show x.length-(i+1)<x.length-i;omega) ?_⟩
    simp only[↓bD,bQ,reduceMul,reduceLeDiff,reduceEqDiff,reduceLT,reduceAdd,reduceSub,↓reduceIte,reduceCtorEq,reduceToNat,reducePow,Nat.reduceBEq,reduceDiv]
    rw[show(32*(i:Int)).toNat=32*i by omega,if_pos (by omega)]
    exact⟨by omega,hs⟩
   ·have hi:i=x.length:=by simp at hb;omega
    subst hi
    rw[List.take_length,hv]
def SGr1f:FuncId→List V→CR:=fun f args=>tab [(93,cY fun b=>cF [b.length≤67108864] false (wV (dg (nb b)))),
 (92,cW fun a=>cF [a.length≤67108864,W32 a] false (.i (bl (vl a)))),
 (94,cW fun a=>cF [a.length≤1073741824,W32 a] false (.tu [.val (.int .u64 (if vl a<18446744073709551616 then vl a else 0:Nat)), .bb (decide (vl a<18446744073709551616))]))] noF f args
def SGr1 (J:Inv):Sig:=⟨J,sdf,SGr1f,noH,0⟩
theorem SGr1_ok (J:Inv):SigOk Tryz.prog (SGr1 J):= .plain (tab_ok (.c (.y fun b=> .z fun⟨c0,_⟩=>fromBytes_fn J b c0)<|
 .c (.w fun a=> .z fun⟨c0,c1,_⟩=>bits_fn J a c0 c1)<|
 .c (.w fun a=> .z fun⟨c0,c1,_⟩=>uint_fn J a c0 c1)<| .n) noF_ok)
def rsA (n e:List UInt8):Bool:=(n.length:Int)==0||byteAt n 0==0||byteAt n ((n.length:Int)-1).toNat%2==0||(e.length:Int)==0||byteAt e 0==0
def rsU (e:List UInt8):Nat:=if nb e<18446744073709551616 then nb e else 0
def rsB (n e:List UInt8):Bool:=decide ((bl (nb n):Int)<2048)||decide (4096<(bl (nb n):Int))|| !decide (nb e<18446744073709551616)||(rsU e:Int)%2==0||decide ((rsU e:Int)<3)||decide (4294967295<(rsU e:Int))
def rsC (n e:List UInt8):Int:=if (rsA n e||rsB n e)=true then 90 else 0
theorem nb_words {b:List UInt8} {k:Nat} (h:b.length≤4*k):nb b<4294967296^k:=by
 refine Nat.lt_of_lt_of_le (nb_lt b) ?_
 rw[B_256]
 exact Nat.pow_le_pow_right (by omega) h
theorem nb_dg_len (b:List UInt8):(dg (nb b)).length≤b.length/4+1:=dg_len (nb_words (by omega))
theorem key_fn (J:Inv) (n e:List UInt8) (hn:n.length≤67108864) (he:e.length≤67108864):Fn Tryz.prog J 56 false [.by n, .by e] (.i (rsC n e)):=by
 refine fnI Tryz.func56 rfl (by kernel_rfl) rfl (SGr1_ok J) ?_
 unfold Tryz.f56
 simp only[↓bD,bQ,reduceMul,reduceLeDiff,reduceEqDiff,reduceLT,reduceAdd,reduceSub,↓reduceIte,reduceCtorEq,reduceToNat,reducePow,Nat.reduceBEq,reduceDiv,SGr1,SGr1f]
 have ln:=nb_dg_len n
 have le:=nb_dg_len e
 have hu:(if nb e<18446744073709551616 then nb e else 0)=rsU e:=rfl
 rw[hu]
 refine⟨fun h=>by omega,fun h=>by simp only[Bool.or_eq_false_iff,beq_eq_false_iff_ne,ne_eq] at h;omega,fun h=>by simp only[Bool.or_eq_false_iff,beq_eq_false_iff_ne,ne_eq] at h;constructor<;>omega,fun h=>by simp only[Bool.or_eq_false_iff,beq_eq_false_iff_ne,ne_eq] at h;omega,fun h=>by simp only[Bool.or_eq_false_iff,beq_eq_false_iff_ne,ne_eq] at h;omega,fun h=>byteAt_lo _ _,fun h=>by omega,fun h=>by omega,fun h=>by simp only[Bool.or_eq_false_iff,beq_eq_false_iff_ne,ne_eq] at h;omega,fun h=> ?_,fun h=>⟨hn,by omega,he,by omega,fun h=>by omega,fun h=>by omega,fun h2=> ?_,fun h2=> ?_⟩⟩
 ·have ha:rsA n e=true:=h
  unfold rsC
  rw[ha,Bool.true_or,if_pos rfl]
 ·have ha:rsA n e=false:=h
  have hb:rsB n e=true:=h2
  unfold rsC
  rw[ha,hb,Bool.false_or,if_pos rfl]
 ·have ha:rsA n e=false:=h
  have hb:rsB n e=false:=h2
  unfold rsC
  rw[ha,hb,Bool.false_or,if_neg (by simp)]
end Go.Proofs.YtfengpdaocgcnaaGreatDoor
