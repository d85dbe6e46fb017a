/- Whole numbers of any size (bignum): the walks of the numbers with a sign. The parts of an RSA key. Whole numbers of any size (bignum): numbers of bytes and digits; quotient and rest with a sign. -/
import Derived.Test.YtfengpdaocgcnaaGreatDoorT27
import Derived.Test.YtfengpdaocgcnaaGreatDoorT28
import Derived.Test.YtfengpdaocgcnaaGreatDoorT22
namespace Go.Proofs.YtfengpdaocgcnaaGreatDoor
open Nat (reduceMul reduceLeDiff reduceEqDiff reduceLT reduceAdd reduceSub reduceDiv)
open Int (reduceToNat reducePow)
open Go.RowKit
set_option linter.unusedSimpArgs false
set_option maxRecDepth 100000
theorem give_fn (J:Inv) (k nx:Nat) (b:Bool) (a:List Nat) (b0 v0:V):FnH Tryz.prog J 153 [.op k 0, .bb b,wV a] [(k, .box 142 (.st [b0,v0]))] nx (.op k 0) [(k, .box 142 (.st [.bb (b&&decide (0<a.length)),wV a]))] nx:=by
 refine fnJ Tryz.func153 rfl (by kernel_rfl) (SGbb_ok J nx) rfl ?_
 unfold Tryz.f153
 simp only[bQ,reduceLeDiff,reduceEqDiff,reduceLT,reduceAdd,↓reduceIte,reduceCtorEq,SGbb]
 refine .inl ?_
 simp only[bQ,↓reduceIte]
 have e:decide (0<(a.length:Int))=decide (0<a.length):=by by_cases h:0<a.length<;>simp[h]
 rw[e]
 cases b<;>exact⟨rfl,Nat.le_refl _⟩
def sumB (xn:Bool) (a:Nat) (yn:Bool) (b:Nat):Bool:=if xn=yn then xn else if b≤a then xn else yn
def sumN (xn:Bool) (a:Nat) (yn:Bool) (b:Nat):Nat:=if xn=yn then a+b else if b≤a then a-b else b-a
def SBmf:FuncId→List V→CR:=fun f args=>tab [(150,cW fun a=>cW fun b=>cF [a.length≤67108864,b.length≤67108864,W32 a,W32 b] false (wV (dg (vl a+vl b)))),
 (236,cW fun a=>cW fun b=>cF [a.length≤67108864,b.length≤a.length,W32 a,W32 b,vl b≤vl a] false (wV (dg (vl a-vl b)))),
 (233,cW fun a=>cW fun b=>cF [a.length≤67108864,b.length≤67108864,W32 a,W32 b] false (wV (dg (vl a*vl b)))),
 (203,cW fun a=>cW fun b=>cF [Pr a,Pr b] false (.i (cmp3 (vl a) (vl b)))),
 (152,cI .u64 fun n=>cF [0≤n,n<18446744073709551616] false (wV (dg n.toNat)))] noF f args
def SBm (J:Inv):Sig:=⟨J,sdf,SBmf,noH,0⟩
theorem SBm_ok (J:Inv):SigOk Tryz.prog (SBm J):= .plain (tab_ok (.c (.w fun a=> .w fun b=> .z fun⟨c0,c1,c2,c3,_⟩=>badd_fn J a b c0 c1 c2 c3)<|
 .c (.w fun a=> .w fun b=> .z fun⟨c0,c1,c2,c3,c4,_⟩=>bsub_fn J a b c0 c1 c2 c3 c4)<|
 .c (.w fun a=> .w fun b=> .z fun⟨c0,c1,c2,c3,_⟩=>bmul_fn J a b c0 c1 c2 c3)<|
 .c (.w fun a=> .w fun b=> .z fun⟨c0,c1,_⟩=>bcmp_fn J a b c0 c1)<|
 .c (.i fun n=> .z fun⟨c0,_,_⟩=>(by have h:=words_fn J n.toNat (by omega);rwa [Int.toNat_of_nonneg c0] at h))<| .n) noF_ok)
theorem div_pr (J:Inv) (a b:List Nat) (ha:Pr a) (hb:Pr b) (h3:3≤b.length) (h4:a.length≤1000000) (h5:b.length≤1000000):Fn Tryz.prog J 270 false [wV a,wV b] (.tu [wV (dg (vl a/vl b)),wV (dg (vl a%vl b))]):=by
 have h:=div_fn J (vl a) (vl b) (b.length-2) (by rw[←hb.eq];omega) (by omega) (by omega) (by rw[←ha.eq];exact h4)
 rwa [←ha.eq,←hb.eq] at h
def SBnf:FuncId→List V→CR:=fun f args=>tab [(269,cW fun a=>cF [Pr a] false (wV (dg (vl a)))),
 (151,cW fun a=>cI .u64 fun n=>cF [0≤n,n<32,a.length≤67108864,W32 a] false (wV (dg (vl a*2^n.toNat)))),
 (270,cW fun a=>cW fun b=>cF [Pr a,Pr b,3≤b.length,a.length≤1000000,b.length≤1000000] false (.tu [wV (dg (vl a/vl b)),wV (dg (vl a%vl b))]))] SBmf f args
def SBn (J:Inv):Sig:=⟨J,sdf,SBnf,noH,0⟩
theorem SBn_ok (J:Inv):SigOk Tryz.prog (SBn J):= .plain (tab_ok (.c (.w fun a=> .z fun⟨c0,_⟩=>Fn.res_eq (r':=wV (dg (vl a))) (twin_fn J a (by have:=c0.len;omega)) (by rw[←c0.eq]))<|
 .c (.w fun a=> .i fun n=> .z fun⟨c0,_,c2,c3,_⟩=>(by have h:=left_fn J a n.toNat (by omega) c2 c3;rwa [Int.toNat_of_nonneg c0] at h))<|
 .c (.w fun a=> .w fun b=> .z fun⟨c0,c1,c2,c3,c4,_⟩=>div_pr J a b c0 c1 c2 c3 c4)<| .n) (SBm_ok J).1)
theorem sum_fn (J:Inv) (xn yn:Bool) (a b:List Nat) (ha:Pr a) (hb:Pr b):Fn Tryz.prog J 202 false [.bb xn,wV a, .bb yn,wV b] (.tu [.bb (sumB xn (vl a) yn (vl b)),wV (dg (sumN xn (vl a) yn (vl b)))]):=by
 refine fnI Tryz.func202 rfl (by kernel_rfl) (by simp[V.cl,clL,wV,wds_cl]) (SBn_ok J) ?_
 unfold Tryz.f202
 simp only[↓bD,bQ,reduceLeDiff,reduceEqDiff,reduceAdd,↓reduceIte,reduceCtorEq,SBn,SBnf,SBmf]
 have la:=ha.len
 have lb:=hb.len
 have wa:=ha.w
 have wb:=hb.w
 refine⟨fun h=> ?_,fun h=>⟨ha,hb,fun h2=> ?_,fun h2=> ?_⟩⟩
 ·have h:xn=yn:=by simpa using h
  unfold sumB sumN
  rw[if_pos h,if_pos h]
  exact⟨by omega,by omega,wa,wb,rfl,rfl⟩
 ·have h: ¬xn=yn:=by simpa using h
  rw[cmp3_ge,decide_eq_true_eq] at h2
  have hl:=dg_mono h2
  rw[←ha.eq,←hb.eq] at hl
  unfold sumB sumN
  rw[if_neg h,if_neg h,if_pos h2,if_pos h2]
  exact⟨by omega,hl,wa,wb,h2,rfl,rfl⟩
 ·have h: ¬xn=yn:=by simpa using h
  rw[cmp3_ge,decide_eq_false_iff_not] at h2
  have hl:=dg_mono (Nat.le_of_not_le h2)
  rw[←ha.eq,←hb.eq] at hl
  unfold sumB sumN
  rw[if_neg h,if_neg h,if_neg h2,if_neg h2]
  exact⟨by omega,hl,wb,wa,Nat.le_of_not_le h2,rfl,rfl⟩
def SBgh:FuncId→List V→List (Nat×Ob)→Nat→Option CallH:=fun f args h nx=>
 if f=153 then match args with
  |[.op k 0, .bb b, .sq 1 d L]=>match Hroot h k with
   |some (.box ty (.st [b0,v0]))=>some ⟨[ty=142,d= .val (.int .u32 0),L=wds (unW L)],[],[(k, .box 142 (.st [b0,v0]))], .op k 0,[(k, .box 142 (.st [.bb (b&&decide (0<(unW L).length)),wV (unW L)]))],nx⟩
   |_=>none
  |_=>none
 else none
theorem SBgh_ok (J:Inv) (f:FuncId) (args:List V) (h:List (Nat×Ob)) (nx:Nat) (c:CallH) (hc:SBgh f args h nx=some c) (hl:AllP c.l):FnH Tryz.prog J f (mixA h c.bw args).1 c.pre nx c.res c.post c.nx:=by
 unfold SBgh at hc
 split at hc
 ·rename_i hf;subst hf
  split at hc
  ·rename_i k b d L
   split at hc
   ·rename_i ty b0 v0 hk
    obtain rfl:=Option.some.inj hc
    have q1:ty=142:=hl _ (by simp)
    have q2:d= .val (.int .u32 0):=hl _ (by simp)
    have q3:L=wds (unW L):=hl _ (by simp)
    subst q1 q2
    have hp:=give_fn J k nx b (unW L) b0 v0
    rw[show wV (unW L)= .sq 1 (.val (.int .u32 0)) L by unfold wV;rw[←q3]] at hp⊢
    exact hp
   ·exact absurd hc (by simp)
  ·exact absurd hc (by simp)
 ·exact absurd hc (by simp)
def SBsf:FuncId→List V→CR:=fun f args=>tab [(202,cB fun xn=>cW fun a=>cB fun yn=>cW fun b=>cF [Pr a,Pr b] false (.tu [.bb (sumB xn (vl a) yn (vl b)),wV (dg (sumN xn (vl a) yn (vl b)))]))] SBnf f args
def SBs (J:Inv):Sig:=⟨J,sdf,SBsf,noH,0⟩
theorem SBs_ok (J:Inv):SigOk Tryz.prog (SBs J):= .plain (tab_ok (.c (.b fun xn=> .w fun a=> .b fun yn=> .w fun b=> .z fun⟨c0,c1,_⟩=>sum_fn J xn yn a b c0 c1)<| .n) (SBn_ok J).1)
def SBi (J:Inv) (b:Nat):Sig:=⟨J,sdf,SBsf,SBgh,b⟩
theorem SBi_ok (J:Inv) (b:Nat):SigOk Tryz.prog (SBi J b):=⟨(SBs_ok J).1,SBgh_ok J⟩
section
variable (J:Inv) (k nx:Nat) (b0 v0:V)
theorem bMul_fn (x y:Nat) (hx:(dg x).length≤100000) (hy:(dg y).length≤100000):FnH Tryz.prog J 198 [.op k 0,pN x,pN y] [(k, .box 142 (.st [b0,v0]))] nx (.op k 0) [(k, .box 142 (bI false (x*y)))] nx:=by
 refine fnJ Tryz.func198 rfl (by kernel_rfl) (SBi_ok J nx) rfl ?_
 unfold Tryz.f198
 simp only[bQ,reduceAdd,SBi,pN,bI]
 refine DrawC.sch [(0,some []),(1,some []),(2,some []),(3,some []),(4,some []),(5,some []),(6,some []),(7,some []),(8,some []),(9,some []),(10,some []),(11,some []),(12,some []),(13,some []),(14,some []),(15,some []),(16,some []),(17,some []),(18,none),(19,none),(20,some [0,1])] [(19,[0,1])] (by kernel_rfl) ?_
 simp only[↓bD,bQ,reduceLeDiff,reduceEqDiff,reduceLT,reduceAdd,↓reduceIte,reduceCtorEq,SBsf,SBnf,SBmf,SBgh]
 refine⟨by omega,by omega, .inr trivial, .inl ?_⟩
 simp only[bQ,↓reduceIte]
 exact Nat.le_refl _
theorem bSet_fn (x:Nat) (hx:(dg x).length≤100000):FnH Tryz.prog J 257 [.op k 0,pN x] [(k, .box 142 (.st [b0,v0]))] nx (.op k 0) [(k, .box 142 (bI false x))] nx:=by
 refine fnJ Tryz.func257 rfl (by kernel_rfl) (SBi_ok J nx) rfl ?_
 unfold Tryz.f257
 simp only[bQ,reduceAdd,SBi,pN,bI]
 refine DrawC.sch [(0,some []),(1,some []),(2,some []),(3,some []),(4,some []),(5,some []),(6,some []),(7,some []),(8,some []),(9,none),(10,none),(11,some [0,1])] [(10,[0,1])] (by kernel_rfl) ?_
 simp only[↓bD,bQ,reduceLeDiff,reduceEqDiff,reduceLT,reduceAdd,↓reduceIte,reduceCtorEq,SBsf,SBnf,SBgh]
 refine⟨.of (by omega), .inr trivial, .inl ?_⟩
 simp only[bQ,↓reduceIte]
 exact Nat.le_refl _
end
theorem sub_sign (x y:Nat):(sumB false x true y&&decide (0<(dg (sumN false x true y)).length))=decide (x<y)∧sumN false x true y=if y≤x then x-y else y-x:=by
 unfold sumB sumN
 simp only[Bool.false_eq_true,if_false]
 by_cases h:y≤x
 ·simp only[if_pos h,Bool.false_and]
  exact⟨(decide_eq_false (by omega)).symm,trivial⟩
 ·simp only[if_neg h,Bool.true_and]
  refine⟨?_,trivial⟩
  rw[decide_eq_true (show x<y by omega)]
  exact decide_eq_true (Nat.pos_of_ne_zero fun e=>by have:=dg_eq_nil.1 (List.length_eq_zero_iff.1 e);omega)
theorem bSub_fn (J:Inv) (k nx:Nat) (b0 v0:V) (x y:Nat) (hx:(dg x).length≤100000) (hy:(dg y).length≤100000):FnH Tryz.prog J 199 [.op k 0,pN x,pN y] [(k, .box 142 (.st [b0,v0]))] nx (.op k 0) [(k, .box 142 (bI (decide (x<y)) (if y≤x then x-y else y-x)))] nx:=by
 refine fnJ Tryz.func199 rfl (by kernel_rfl) (SBi_ok J nx) rfl ?_
 unfold Tryz.f199
 simp only[bQ,reduceAdd,SBi,pN,bI]
 refine DrawC.sch [(0,some []),(1,some []),(2,some []),(3,some []),(4,some []),(5,some []),(6,some []),(7,some []),(8,some []),(9,some []),(10,some []),(11,some []),(12,some []),(13,some []),(14,some []),(15,some []),(16,some []),(17,some []),(18,none),(19,some []),(20,some []),(21,none),(22,some [0,1])] [(21,[0,1])] (by kernel_rfl) ?_
 simp only[↓bD,bQ,reduceLeDiff,reduceEqDiff,reduceLT,reduceAdd,↓reduceIte,reduceCtorEq,SBsf,SBgh]
 refine⟨.of (by omega), .of (by omega), .inr trivial, .inl ?_⟩
 obtain⟨e1,e2⟩:=sub_sign x y
 rw[e1,e2]
 simp only[bQ,↓reduceIte]
 exact Nat.le_refl _
theorem bSubO_fn (J:Inv) (k nx:Nat) (bx:Bool) (x y:Nat) (hx:(dg x).length≤100000) (hy:(dg y).length≤100000):FnH Tryz.prog J 199 [.op k 0, .op k 0,pN y] [(k, .box 142 (bI bx x))] nx (.op k 0) [(k, .box 142 (bI (sumB bx x true y&&decide (0<(dg (sumN bx x true y)).length)) (sumN bx x true y)))] nx:=by
 refine fnJ Tryz.func199 rfl (by kernel_rfl) (SBi_ok J nx) rfl ?_
 unfold Tryz.f199
 simp only[bQ,reduceAdd,SBi,pN,bI]
 refine DrawC.sch [(0,some []),(1,some []),(2,some []),(3,some []),(4,some []),(5,some []),(6,some []),(7,some []),(8,some []),(9,some []),(10,some []),(11,some []),(12,some []),(13,some []),(14,some []),(15,some []),(16,some []),(17,some []),(18,none),(19,some []),(20,some []),(21,none),(22,some [0,1])] [(21,[0,1])] (by kernel_rfl) ?_
 simp only[↓bD,bQ,reduceLeDiff,reduceEqDiff,reduceLT,reduceAdd,↓reduceIte,reduceCtorEq,SBsf,SBgh]
 refine⟨.of (by omega), .of (by omega), .inr trivial, .inl ?_⟩
 simp only[bQ,↓reduceIte]
 exact Nat.le_refl _
theorem bAddP_fn (J:Inv) (k nx:Nat) (bx:Bool) (x y:Nat) (hx:(dg x).length≤100000) (hy:(dg y).length≤100000):FnH Tryz.prog J 148 [.op k 0, .op k 0,pN y] [(k, .box 142 (bI bx x))] nx (.op k 0) [(k, .box 142 (bI (sumB bx x false y&&decide (0<(dg (sumN bx x false y)).length)) (sumN bx x false y)))] nx:=by
 refine fnJ Tryz.func148 rfl (by kernel_rfl) (SBi_ok J nx) rfl ?_
 unfold Tryz.f148
 simp only[bQ,reduceAdd,SBi,pN,bI]
 refine DrawC.sch [(0,some []),(1,some []),(2,some []),(3,some []),(4,some []),(5,some []),(6,some []),(7,some []),(8,some []),(9,some []),(10,some []),(11,some []),(12,some []),(13,some []),(14,some []),(15,some []),(16,some []),(17,none),(18,some []),(19,some []),(20,none),(21,some [0,1])] [(20,[0,1])] (by kernel_rfl) ?_
 simp only[↓bD,bQ,reduceLeDiff,reduceEqDiff,reduceLT,reduceAdd,↓reduceIte,reduceCtorEq,SBsf,SBgh]
 refine⟨.of (by omega), .of (by omega), .inr trivial, .inl ?_⟩
 simp only[bQ,↓reduceIte]
 exact Nat.le_refl _
theorem bAddO_fn (J:Inv) (k nx:Nat) (k2:Nat) (h1:(k=k2)=False) (bx:Bool) (x y:Nat) (hx:(dg x).length≤100000) (hy:(dg y).length≤100000):FnH Tryz.prog J 148 [.op k 0, .op k 0, .op k2 0] [(k, .box 142 (bI bx x)),(k2, .box 142 (bI false y))] nx (.op k 0) [(k, .box 142 (bI (sumB bx x false y&&decide (0<(dg (sumN bx x false y)).length)) (sumN bx x false y))),(k2, .box 142 (bI false y))] nx:=by
 refine fnJ Tryz.func148 rfl (by kernel_rfl) (SBi_ok J nx) rfl ?_
 unfold Tryz.f148
 simp only[bQ,reduceAdd,SBi,bI]
 refine DrawC.sch [(0,some []),(1,some []),(2,some []),(3,some []),(4,some []),(5,some []),(6,some []),(7,some []),(8,some []),(9,some []),(10,some []),(11,some []),(12,some []),(13,some []),(14,some []),(15,some []),(16,some []),(17,none),(18,some []),(19,some []),(20,none),(21,some [0,1])] [(20,[0,1])] (by kernel_rfl) ?_
 simp only[↓bD,bQ,reduceLeDiff,reduceEqDiff,reduceLT,reduceAdd,↓reduceIte,reduceCtorEq,SBsf,SBgh,h1]
 refine⟨.of (by omega), .of (by omega), .inr trivial, .inl ?_⟩
 simp only[bQ,↓reduceIte,h1]
 exact Nat.le_refl _
theorem bSetI_fn (J:Inv) (k nx:Nat) (b0 v0:V) (x:Nat) (hx:x<9223372036854775808):FnH Tryz.prog J 234 [.op k 0, .i x] [(k, .box 142 (.st [b0,v0]))] nx (.op k 0) [(k, .box 142 (bI false x))] nx:=by
 refine fnJ Tryz.func234 rfl (by kernel_rfl) (SBi_ok J nx) rfl ?_
 unfold Tryz.f234
 simp only[↓bD,bQ,reduceEqDiff,reduceAdd,↓reduceIte,reduceCtorEq,SBi,SBsf,SBnf,SBmf,SBgh,bI]
 have e:wr .u64 (x:Int)=x:=wr64n (by omega)
 rw[e]
 refine⟨fun h=>absurd h (by rw[decide_eq_true_eq];omega),fun _=>⟨by omega,by omega, .inl ?_⟩⟩
 have e2:decide ((x:Int)<0)=false:=decide_eq_false (by omega)
 simp only[bQ,↓reduceIte,e2]
 exact Nat.le_refl _
theorem bCmp_fn (J:Inv) (x y:Nat) (hx:(dg x).length≤100000) (hy:(dg y).length≤100000):Fn Tryz.prog J 149 false [pN x,pN y] (.i (cmp3 x y)):=by
 refine fnI Tryz.func149 rfl (by kernel_rfl) rfl (SBs_ok J) ?_
 unfold Tryz.f149
 simp only[↓bD,bQ,reduceEqDiff,reduceLT,reduceAdd,↓reduceIte,reduceCtorEq,SBs,pN]
 refine DrawC.sch [(0,some []),(1,some []),(2,some []),(3,some []),(4,some []),(5,some []),(6,some []),(7,some []),(8,none),(9,some [])] [] (by kernel_rfl) ?_
 simp only[↓bD,bQ,reduceEqDiff,reduceLT,↓reduceIte,reduceCtorEq,SBsf,SBnf,SBmf]
 exact⟨.of (by omega), .of (by omega)⟩
theorem uint_step {x:List Nat} {i:Nat} (hw:W32 x) (hi:i<x.length) (hl:x.length≤2):bt .or .u64 ((vl (x.take i):Nat):Int) (wr .u64 (wr .u64 ((x.getD i 0:Nat):Int)*2^(32*i)))=((vl (x.take (i+1)):Nat):Int):=by
 have h1:=hw.get i
 have h2:=vl_take_lt hw i
 have h3:=vl_take_succ x i
 have h4:=vl_take_lt hw (i+1)
 have h5:(2:Int)^(32*i)=((4294967296^i:Nat):Int):=by rw[B_pow];simp
 have h6:4294967296^(i+1)≤4294967296^2:=Nat.pow_le_pow_right (by omega) (by omega)
 rw[h5,wr64n (by omega),←Int.natCast_mul]
 rw[Nat.mul_comm (4294967296^i)] at h3
 have h7:x.getD i 0*4294967296^i<18446744073709551616:=by omega
 rw[wr64n h7,bt_eq,bits_or64 (by omega) h7]
 congr 1
 rw[h3,Nat.mul_comm,B_pow,or_add (by rw[←B_pow];exact h2)]
def SGr0f:FuncId→List V→CR:=fun f args=>tab [(141,cW fun a=>cF [a.length≤1073741824,W32 a] false (wV (dg (vl a))))] noF f args
def SGr0 (J:Inv):Sig:=⟨J,sdf,SGr0f,noH,0⟩
theorem SGr0_ok (J:Inv):SigOk Tryz.prog (SGr0 J):= .plain (tab_ok (.c (.w fun a=> .z fun⟨c0,c1,_⟩=>(by have h:=value_fn J a c0;rwa [trim_dg c1] at h))<| .n) noF_ok)
theorem uint_fn (J:Inv) (a:List Nat) (ha:a.length≤1073741824) (wa:W32 a):Fn Tryz.prog J 94 false [wV a] (.tu [.val (.int .u64 (if vl a<18446744073709551616 then vl a else 0:Nat)), .bb (decide (vl a<18446744073709551616))]):=by
 refine fnI Tryz.func94 rfl (by kernel_rfl) rfl (SGr0_ok J) ?_
 unfold Tryz.f94
 simp only[↓bD,bQ,reduceLeDiff,reduceEqDiff,reduceAdd,↓reduceIte,reduceCtorEq,SGr0,SGr0f]
 have hx:=W32_dg (vl a)
 have hv:=vl_dg (vl a)
 have hle:(dg (vl a)).length≤2↔vl a<18446744073709551616:=⟨fun h=>by have h1:=dg_hi (vl a);have h2:=Nat.pow_le_pow_right (n:=4294967296) (by omega) h;omega,fun h=>dg_len h⟩
 generalize dg (vl a)=x at *
 refine⟨ha,wa,fun h=> ?_,fun h=> ?_⟩
 ·have h1: ¬vl a<18446744073709551616:=fun e=>by have:=hle.2 e;rw[decide_eq_true_eq] at h;omega
  rw[if_neg h1,decide_eq_false h1]
  exact⟨rfl,rfl⟩
 ·have h2:x.length≤2:=by rw[decide_eq_false_iff_not] at h;omega
  have h1:=hle.1 h2
  rw[if_pos h1,decide_eq_true h1]
  refine LoopC.intro (α:=Nat) (fun i=>i≤x.length) (fun i=>⟨[(13,wV x),(14, .i x.length),(15, .i i),(5, .val (.int .u64 (vl (x.take i):Nat)))],[],0⟩) (fun i=>x.length-i) 0 (Nat.zero_le _) ?_ ?_
  ·simp only[bQ,reduceLeDiff,reduceEqDiff,↓reduceIte]
   exact⟨rfl,rfl⟩
  ·intro i hi
   simp only[bQ,reduceLeDiff,reduceEqDiff,reduceLT,reduceAdd,↓reduceIte,reduceCtorEq]
   refine⟨fun hb=> ?_,fun hb=> ?_⟩
   ·have hb:i<x.length:=by simpa using hb
    have hs:=uint_step hx hb h2
    refine⟨by omega,by omega,by constructor<;>omega,by omega,by constructor<;>omega,Again.intro (i+1) hb (by show x.length-(i+1)<x.length-i;omega) ?_⟩
    simp only[bQ,reduceLeDiff,reduceEqDiff,↓reduceIte]
    rw[show(32*(i:Int)).toNat=32*i by omega,if_pos (by omega)]
    exact⟨by omega,hs⟩
   ·have hi:i=x.length:=by simp at hb;omega
    subst hi
    rw[List.take_length,hv]
def SGr1f:FuncId→List V→CR:=fun f args=>tab [(93,cY fun b=>cF [b.length≤67108864] false (wV (dg (nb b)))),
 (92,cW fun a=>cF [a.length≤67108864,W32 a] false (.i (bl (vl a)))),
 (94,cW fun a=>cF [a.length≤1073741824,W32 a] false (.tu [.val (.int .u64 (if vl a<18446744073709551616 then vl a else 0:Nat)), .bb (decide (vl a<18446744073709551616))]))] noF f args
def SGr1 (J:Inv):Sig:=⟨J,sdf,SGr1f,noH,0⟩
theorem SGr1_ok (J:Inv):SigOk Tryz.prog (SGr1 J):= .plain (tab_ok (.c (.y fun b=> .z fun⟨c0,_⟩=>fromBytes_fn J b c0)<|
 .c (.w fun a=> .z fun⟨c0,c1,_⟩=>bits_fn J a c0 c1)<|
 .c (.w fun a=> .z fun⟨c0,c1,_⟩=>uint_fn J a c0 c1)<| .n) noF_ok)
def rsA (n e:List UInt8):Bool:=(n.length:Int)==0||byteAt n 0==0||byteAt n ((n.length:Int)-1).toNat%2==0||(e.length:Int)==0||byteAt e 0==0
def rsU (e:List UInt8):Nat:=if nb e<18446744073709551616 then nb e else 0
def rsB (n e:List UInt8):Bool:=decide ((bl (nb n):Int)<2048)||decide (4096<(bl (nb n):Int))|| !decide (nb e<18446744073709551616)||(rsU e:Int)%2==0||decide ((rsU e:Int)<3)||decide (4294967295<(rsU e:Int))
def rsC (n e:List UInt8):Int:=if (rsA n e||rsB n e)=true then 90 else 0
theorem nb_words {b:List UInt8} {k:Nat} (h:b.length≤4*k):nb b<4294967296^k:=by
 refine Nat.lt_of_lt_of_le (nb_lt b) ?_
 rw[B_256]
 exact Nat.pow_le_pow_right (by omega) h
theorem nb_dg_len (b:List UInt8):(dg (nb b)).length≤b.length/4+1:=dg_len (nb_words (by omega))
theorem key_fn (J:Inv) (n e:List UInt8) (hn:n.length≤67108864) (he:e.length≤67108864):Fn Tryz.prog J 56 false [.by n, .by e] (.i (rsC n e)):=by
 refine fnI Tryz.func56 rfl (by kernel_rfl) rfl (SGr1_ok J) ?_
 unfold Tryz.f56
 simp only[↓bD,bQ,reduceEqDiff,reduceLT,reduceAdd,↓reduceIte,reduceCtorEq,reduceToNat,SGr1,SGr1f]
 have ln:=nb_dg_len n
 have le:=nb_dg_len e
 have hu:(if nb e<18446744073709551616 then nb e else 0)=rsU e:=rfl
 rw[hu]
 refine⟨fun h=>by omega,fun h=>by simp only[beq_eq_false_iff_ne,ne_eq] at h;omega,fun h=>by simp only[Bool.or_eq_false_iff,beq_eq_false_iff_ne,ne_eq] at h;constructor<;>omega,fun h=>by simp only[Bool.or_eq_false_iff,beq_eq_false_iff_ne,ne_eq] at h;omega,fun h=>by simp only[Bool.or_eq_false_iff,beq_eq_false_iff_ne,ne_eq] at h;omega,fun h=>byteAt_lo _ _,fun h=>by omega,fun h=>by omega,fun h=>by simp only[Bool.or_eq_false_iff,beq_eq_false_iff_ne,ne_eq] at h;omega,fun h=> ?_,fun h=>⟨hn,by omega,he,by omega,fun h=>by omega,fun h=>by omega,fun h2=> ?_,fun h2=> ?_⟩⟩
 ·have ha:rsA n e=true:=h
  unfold rsC
  rw[ha,Bool.true_or,if_pos rfl]
 ·have ha:rsA n e=false:=h
  have hb:rsB n e=true:=h2
  unfold rsC
  rw[ha,hb,Bool.false_or,if_pos rfl]
 ·have ha:rsA n e=false:=h
  have hb:rsB n e=false:=h2
  unfold rsC
  rw[ha,hb,Bool.false_or,if_neg (by simp)]
theorem Fn.of_box {P:Program} {J:Inv} {f:FuncId} {args:List V} {k nx:Nat} {ty:TypeId} {cs:List V} {post:List (Nat×Ob)} (h:FnH P J f args [] 0 (.op k 0) post nx) (hk:Hroot post k=some (.box ty (.st cs))) (hc:clL cs=true) (h0:0<cs.length):Fn P J f false args (.pe (.sq cs.length .any [.st cs]) 0 0):=by
 refine⟨h.1,fun w F vs hI hF hlen hvs=> ?_⟩
 have hm:Mem J [] 0 (.bare F) w:=⟨hF,fun _ _=>⟨rfl,rfl⟩,fun m o hm=>by cases m<;>simp[Hget,Hroot,Hchild] at hm,fun m m' o o' g hm=>by cases m<;>simp[Hget,Hroot,Hchild] at hm,fun k y hk=>by simp[Cx.bare] at hk,hI⟩
 refine(h.2 w (.bare F) vs hm hlen hvs).mono fun e w' ⟨v,G,he,hev,hle,hkeep,hmem,hown,hrep⟩=> ?_
 have hnB: ∀b,¬Blk (Cx.bare F) [] b:=fun b ⟨m,ob,hm,_⟩=>by cases m<;>simp[Hget,Hroot,Hchild] at hm
 obtain⟨b,hO,rfl⟩:=rep_op hrep
 obtain⟨b',cells,u,hO',hheap,hsz,h1,h2,_⟩:=hmem.own (.r k) _ hk
 rw[hO] at hO'
 obtain rfl:b=b':=by simpa using hO'
 have hnew:w.heap.size≤b:=by
  rcases hown (.r k) _ b hk (by simp[Cx.blk,hO]) with h|h
  ·exact absurd h (hnB b)
  ·exact h
 have hcs:(V.st cs).csize=cs.length:=rfl
 have hp:Rep w' (.bare fun b=>F b∨(false=true∧b<w.heap.size)) (.pe (.sq cs.length .any [.st cs]) 0 0) (.pointer (some ⟨b,0+(0*cs.length+0),none⟩)):=by
  refine .pe (.sq cs.length .any [.st cs]) cs.length 1 (fun i=>[V.st cs].getD i .any) 0 0 b 0 (fun _ j=>u j) (by simp only[V.elems,List.length_singleton];rw[if_neg (by omega)]) (by omega) (heap_lt hheap) (fun hb=> ?_) (fun i hi j hj=> ?_) (fun i hi j hj=> ?_)
  ·rcases hb with hb|⟨hb,_⟩
   ·have:=hF b hb;omega
   ·cases hb
  ·obtain rfl:i=0:=by omega
   have h3:=h1 j (by rw[hcs];exact hj)
   rw[show 0+(0*cs.length+j)=j by omega]
   exact⟨(cell0 hheap j).trans h3.1,h3.2⟩
  ·obtain rfl:i=0:=by omega
   have h3:=h2 j (by rw[hcs];exact hj)
   have hcl:((V.st cs).cell j).cl=true:=by
    show(cs.getD j .any).cl=true
    exact cl_get hc hj _
   refine(h3.bare hcl).of_bare fun b hb=> .inl ?_
   rcases hb with hb|⟨hb,_⟩
   ·exact hkeep b hb (hnB b)
   ·cases hb
 rw[show 0+(0*cs.length+0)=0 by omega] at hp
 exact⟨_,he,⟨hev.os,hev.tape,hev.output,hev.size,fun b hb=>hev.block b hb (hnB b)⟩,hp⟩
def SBjh:FuncId→List V→List (Nat×Ob)→Nat→Option CallH:=fun f args h nx=>
 if f=234 then match args with
  |[.op k 0, .val (.int .i64 x)]=>match Hroot h k with
   |some (.box ty (.st [b0,v0]))=>some ⟨[ty=142,0≤x,x<9223372036854775808],[],[(k, .box 142 (.st [b0,v0]))], .op k 0,[(k, .box 142 (bI false x.toNat))],nx⟩
   |_=>none
  |_=>none
 else SBgh f args h nx
theorem SBjh_ok (J:Inv) (f:FuncId) (args:List V) (h:List (Nat×Ob)) (nx:Nat) (c:CallH) (hc:SBjh f args h nx=some c) (hl:AllP c.l):FnH Tryz.prog J f (mixA h c.bw args).1 c.pre nx c.res c.post c.nx:=by
 unfold SBjh at hc
 split at hc
 ·rename_i hf;subst hf
  split at hc
  ·rename_i k x
   split at hc
   ·rename_i ty b0 v0 hk
    obtain rfl:=Option.some.inj hc
    have q1:ty=142:=hl _ (by simp)
    have q2:0≤x:=hl _ (by simp)
    have q3:x<9223372036854775808:=hl _ (by simp)
    have hp:=bSetI_fn J k nx b0 v0 x.toNat (by omega)
    rw[show V.i (x.toNat:Int)= .val (.int .i64 x) by unfold V.i;rw[Int.toNat_of_nonneg q2]] at hp
    exact hp
   ·exact absurd hc (by simp)
  ·exact absurd hc (by simp)
 ·exact SBgh_ok J f args h nx c hc hl
def SBj (J:Inv) (b:Nat):Sig:=⟨J,sdf,SBsf,SBjh,b⟩
theorem SBj_ok (J:Inv) (b:Nat):SigOk Tryz.prog (SBj J b):=⟨(SBs_ok J).1,SBjh_ok J⟩
theorem newInt_fn (J:Inv) (x:Nat) (hx:x<9223372036854775808):Fn Tryz.prog J 200 false [.i x] (pN x):=by
 refine Fn.of_box (k:=0) (nx:=1) (ty:=142) (post:=[(0, .box 142 (bI false x))]) ?_ rfl (by simp[clL,V.cl,wV,wds_cl]) (by simp)
 refine fnJ Tryz.func200 rfl (by kernel_rfl) (SBj_ok J 0) rfl ?_
 unfold Tryz.f200
 simp only[bQ,reduceEqDiff,↓reduceIte,reduceCtorEq,SBj,SBjh,bI]
 refine⟨by omega,by omega, .inl ?_⟩
 simp only[bQ,reduceLeDiff,↓reduceIte]
theorem nb_nil:nb []=0:=rfl
theorem setBytes_fn (J:Inv) (k nx:Nat) (b0 v0:V) (b:List UInt8) (hb:b.length≤100000):FnH Tryz.prog J 96 [.op k 0, .by b] [(k, .box 142 (.st [b0,v0]))] nx (.op k 0) [(k, .box 142 (bI false (nb b)))] nx:=by
 refine fnJ Tryz.func96 rfl (by kernel_rfl) (SBj_ok J nx) rfl ?_
 unfold Tryz.f96
 simp only[bQ,reduceAdd,SBj,bI]
 refine LoopC.introA (α:=Nat) (fun i=>i≤b.length) (fun i=>⟨[(0, .op k 0),(1, .by b),(5,wV (dg (nb (b.take i)))),(6, .i i)],[(k, .box 142 (.st [b0,v0]))],nx⟩) (fun i=>b.length-i) 0 [.nl 5 1 (.val (.int .u32 0))] (Nat.zero_le _) ?_ ?_
 ·simp only[bQ,reduceEqDiff,↓reduceIte,reduceCtorEq,nb_nil,dg_zero]
  exact⟨rfl,Nat.le_refl _⟩
 ·intro i hi
  simp only[bQ,reduceEqDiff,↓reduceIte,reduceCtorEq,SBjh,SBgh]
  refine⟨fun h=> ?_,fun h=> ?_⟩
  ·have h:i<b.length:=by simpa using h
   refine DrawC.sch [(0,some []),(2,some []),(3,some []),(4,some []),(5,some []),(6,some []),(1,none),(7,none),(8,none),(9,some [])] [] (by kernel_rfl) ?_
   simp only[↓bD,bQ,reduceEqDiff,reduceLT,↓reduceIte,reduceCtorEq,reduceToNat,SBsf,SBnf,SBmf]
   have hl:=byteAt_lo b i
   have hh:=byteAt_hi b i
   have e1:wr .u64 (byteAt b i)=(((b.getD i 0).toNat:Nat):Int):=by
    have e:byteAt b i=(((b.getD i 0).toNat:Nat):Int):=rfl
    rw[e] at hh⊢
    exact wr64n (by omega)
   have e2:b.take (i+1)=b.take i++[b.getD i 0]:=by rw[List.take_succ_eq_append_getElem h,List.getD_eq_getElem?_getD,List.getElem?_eq_getElem h];rfl
   have l1:=nb_dg_len (b.take i)
   have l2:=nb_dg_len (b.take (i+1))
   rw[List.length_take] at l1 l2
   have e3:nb (b.take i)*2^8+(b.getD i 0).toNat=nb (b.take (i+1)):=by rw[e2,nb_snoc];omega
   have l3:=dg_mono (show nb (b.take i)*2^8≤nb (b.take (i+1)) by omega)
   have l4:=dg_mono (show(b.getD i 0).toNat≤nb (b.take (i+1)) by omega)
   rw[e1,Int.toNat_natCast]
   have h256:=(b.getD i 0).toNat_lt
   refine⟨by omega,by omega,by omega,by omega,by omega,by omega,by omega,by omega,by omega,by constructor<;>omega,Again.intro (i+1) h (by omega) ?_⟩
   simp only[bQ,reduceEqDiff,↓reduceIte,reduceCtorEq]
   rw[e3]
   exact⟨⟨rfl,by omega⟩,Nat.le_refl _⟩
  ·have h:i=b.length:=by rw[decide_eq_false_iff_not] at h;omega
   subst h
   rw[List.take_length]
   refine .inl ?_
   simp only[bQ,↓reduceIte]
   exact Nat.le_refl _
def hd (c:Nat):Nat:=if c≤57 then c-48 else c-87
def hexN (s:List UInt8):Nat:=s.foldl (fun a c=>16*a+hd c.toNat) 0
theorem hexN_snoc (s:List UInt8) (c:UInt8):hexN (s++[c])=16*hexN s+hd c.toNat:=by unfold hexN;rw[List.foldl_append];rfl
def HexOk (s:List UInt8):Prop:= ∀c∈s,(48≤c.toNat∧c.toNat≤57)∨(97≤c.toNat∧c.toNat≤102)
theorem hd_lt {s:List UInt8} (h:HexOk s) {c:UInt8} (hc:c∈s):hd c.toNat<16:=by
 have:=h c hc
 unfold hd;split<;>omega
theorem hex_aux: ∀(s:List UInt8) (a:Nat),(∀c∈s,hd c.toNat<16)→s.foldl (fun a c=>16*a+hd c.toNat) a<(a+1)*16^s.length
 |[],a,_=>by simp
 |c::r,a,h=>by
  have h1:=hex_aux r (16*a+hd c.toNat) fun d hd=>h d (List.mem_cons_of_mem _ hd)
  have h2:=h c (List.mem_cons_self ..)
  rw[List.foldl_cons,List.length_cons,Nat.pow_succ]
  refine Nat.lt_of_lt_of_le h1 ?_
  rw[Nat.mul_comm (16^r.length),←Nat.mul_assoc]
  exact Nat.mul_le_mul_right _ (by omega)
theorem hexN_len {s:List UInt8} (h:HexOk s):(dg (hexN s)).length≤s.length:=by
 have h1:=hex_aux s 0 fun c hc=>hd_lt h hc
 rw[Nat.zero_add,Nat.one_mul] at h1
 exact dg_len (Nat.lt_of_lt_of_le h1 (Nat.pow_le_pow_left (by omega) _))
theorem wr_small {x:Int} (h0:0≤x) (h1:x<9223372036854775808):wr .i64 x=x:=by rw[wr_eq,IntKind.wrap_i64];omega
theorem setString_fn (J:Inv) (k nx:Nat) (b0 v0:V) (s:List UInt8) (hs:s.length≤1000) (h0:s.length≠0) (hx:HexOk s):FnH Tryz.prog J 195 [.op k 0, .str s, .i 16] [(k, .box 142 (.st [b0,v0]))] nx (.tu [.op k 0, .bb true]) [(k, .box 142 (bI false (hexN s)))] nx:=by
 refine fnJ Tryz.func195 rfl (by kernel_rfl) (SBj_ok J nx) rfl ?_
 unfold Tryz.f195
 have hfirst:0<s.length:=by omega
 have hm:s.getD 0 0∈s:=by
  rw[List.getD_eq_getElem?_getD,List.getElem?_eq_getElem hfirst]
  exact List.getElem_mem hfirst
 have hf:=hx _ hm
 have e1:(byteAt s 0==45)=false:=by rw[beq_eq_false_iff_ne];unfold byteAt;omega
 have e2:(byteAt s 0==43)=false:=by rw[beq_eq_false_iff_ne];unfold byteAt;omega
 have e3:decide (0<(s.length:Int))=true:=decide_eq_true (by omega)
 have e4:((s.length:Int)==0)=false:=by rw[beq_eq_false_iff_ne];omega
 have e5:((16:Int)==0)=false:=rfl
 have e6:decide ((16:Int)<2)=false:=rfl
 have e7:decide ((36:Int)<16)=false:=rfl
 simp only[↓bD,bQ,reduceEqDiff,reduceAdd,↓reduceIte,reduceCtorEq,reduceToNat,SBj,bI,e1,e2,e3,e4,e5,e6,e7]
 refine⟨fun _=>by omega,fun _=>by omega,fun _=>by omega,fun _=>by omega,?_⟩
 refine LoopC.introA (α:=Nat) (fun i=>i≤s.length) (fun i=>⟨[(0, .op k 0),(1, .str s),(2, .i 16),(8, .bb false),(9,wV (dg (hexN (s.take i)))),(10, .i i)],[(k, .box 142 (.st [b0,v0]))],nx⟩) (fun i=>s.length-i) 0 [.nl 9 1 (.val (.int .u32 0))] (Nat.zero_le _) ?_ ?_
 ·simp only[bQ,reduceEqDiff,↓reduceIte,reduceCtorEq,show hexN []=0 from rfl,dg_zero]
  exact⟨rfl,Nat.le_refl _⟩
 ·intro i hi
  have hrange:i<s.length→(48≤byteAt s i∧byteAt s i≤57)∨(97≤byteAt s i∧byteAt s i≤102):=fun h=>by
   have hm:s.getD i 0∈s:=by
    rw[List.getD_eq_getElem?_getD,List.getElem?_eq_getElem h]
    exact List.getElem_mem h
   have:=hx _ hm
   unfold byteAt
   omega
  have hstep:i<s.length→hexN (s.take (i+1))=hexN (s.take i)*16+hd (byteAt s i).toNat:=fun h=>by
   have e2:s.take (i+1)=s.take i++[s.getD i 0]:=by rw[List.take_succ_eq_append_getElem h,List.getD_eq_getElem?_getD,List.getElem?_eq_getElem h];rfl
   rw[e2,hexN_snoc,Nat.mul_comm]
   rfl
  have hsub: ∀n,HexOk (s.take n):=fun n c hc=>hx c (List.mem_of_mem_take hc)
  have l1:=hexN_len (hsub i)
  have l2:=hexN_len (hsub (i+1))
  rw[List.length_take] at l1 l2
  by_cases hlt:i<s.length
  ·have e8:decide ((i:Int)<s.length)=true:=decide_eq_true (by omega)
   have hst:=hstep hlt
   have w16:wr .u64 16=16:=wr64 (by omega) (by omega)
   rcases hrange hlt with ⟨r1,r2⟩|⟨r1,r2⟩
   ·have f1:decide (48≤byteAt s i)=true:=decide_eq_true r1
    have f2:decide (byteAt s i≤57)=true:=decide_eq_true r2
    have f0:(byteAt s i-48)%256=byteAt s i-48:=by omega
    have f3:wr .i64 (byteAt s i-48)=((hd (byteAt s i).toNat:Nat):Int):=by
     rw[wr_small (by omega) (by omega)]
     unfold hd
     rw[if_pos (by omega)]
     omega
    have hlt16:hd (byteAt s i).toNat<16:=by unfold hd;rw[if_pos (by omega)];omega
    generalize hd (byteAt s i).toNat=d at *
    have f5:decide ((16:Int)≤(d:Int))=false:=decide_eq_false (by omega)
    have f6:wr .u64 (d:Int)=(d:Int):=wr64n (by omega)
    simp only[↓bD,bQ,reduceEqDiff,↓reduceIte,reduceCtorEq,reduceToNat,SBsf,SBnf,SBmf,e8,f1,f2,w16,f0,f3,f5,f6]
    have l3:=dg_mono (show hexN (s.take i)*16≤hexN (s.take (i+1)) by omega)
    have l4:(dg d).length≤1:=dg_len (by omega)
    have l5:(dg 16).length≤1:=dg_len (by omega)
    refine⟨by omega,by omega,by omega,by omega,by omega,by omega,by omega,by omega,by omega,by omega,by constructor<;>omega,Again.intro (i+1) hlt (by omega) ?_⟩
    simp only[bQ,reduceEqDiff,↓reduceIte,reduceCtorEq]
    rw[←hst]
    exact⟨⟨rfl,by omega⟩,Nat.le_refl _⟩
   ·have f1:decide (48≤byteAt s i)=true:=decide_eq_true (by omega)
    have f2:decide (byteAt s i≤57)=false:=decide_eq_false (by omega)
    have f3:decide (97≤byteAt s i)=true:=decide_eq_true r1
    have f4:decide (byteAt s i≤122)=true:=decide_eq_true (by omega)
    have f0:(byteAt s i-97)%256=byteAt s i-97:=by omega
    have g3:wr .i64 (byteAt s i-97)+10=((hd (byteAt s i).toNat:Nat):Int):=by
     rw[wr_small (by omega) (by omega)]
     unfold hd
     rw[if_neg (by omega)]
     omega
    have hlt16:hd (byteAt s i).toNat<16:=by unfold hd;rw[if_neg (by omega)];omega
    generalize hd (byteAt s i).toNat=d at *
    have f5:decide ((16:Int)≤(d:Int))=false:=decide_eq_false (by omega)
    have f6:wr .u64 (d:Int)=(d:Int):=wr64n (by omega)
    simp only[↓bD,bQ,reduceEqDiff,↓reduceIte,reduceCtorEq,reduceToNat,SBsf,SBnf,SBmf,e8,f1,f2,f3,f4,w16,f0,g3,f5,f6]
    have l3:=dg_mono (show hexN (s.take i)*16≤hexN (s.take (i+1)) by omega)
    have l4:(dg d).length≤1:=dg_len (by omega)
    have l5:(dg 16).length≤1:=dg_len (by omega)
    refine⟨by omega,by omega,by constructor<;>omega,by omega,by omega,by omega,by omega,by omega,by omega,by omega,by omega,by constructor<;>omega,Again.intro (i+1) hlt (by omega) ?_⟩
    simp only[bQ,reduceEqDiff,↓reduceIte,reduceCtorEq]
    rw[←hst]
    exact⟨⟨rfl,by omega⟩,Nat.le_refl _⟩
  ·have h:i=s.length:=by omega
   subst h
   have e8:decide ((s.length:Int)<s.length)=false:=decide_eq_false (by omega)
   rw[List.take_length]
   simp only[↓bD,bQ,reduceEqDiff,↓reduceIte,reduceCtorEq,SBjh,SBgh,e8]
   refine .inl ?_
   simp only[bQ,reduceLeDiff,reduceEqDiff,reduceAdd,↓reduceIte]
   exact Nat.le_refl _
end Go.Proofs.YtfengpdaocgcnaaGreatDoor
