/- SpkiFrames: what it computes. -/
import Derived.Test.YtfengpdaocgcnaaGreatDoorS49
namespace Go.Proofs.YtfengpdaocgcnaaGreatDoor
open Nat (reduceMul reduceLeDiff reduceEqDiff reduceLT reduceAdd reduceSub reduceDiv)
open Int (reduceToNat reducePow)
open Go.RowKit
set_option linter.unusedSimpArgs false
set_option maxRecDepth 100000
def LFaf:FuncId→List V→CR:=fun f args=>tab [(36,cY fun b=>cF [b.length≤16777216] false (.str (encF stdS b)))] noF f args
def LFa (J:Inv):Sig:=⟨J,sdf,LFaf,noH,0⟩
theorem LFa_ok (J:Inv):SigOk Tryz.prog (LFa J):= .plain (tab_ok (.c (.y fun b=> .z fun⟨c0,_⟩=>encodeStd_fn J b c0)<| .n) noF_ok)
theorem pemL_small {s:List UInt8} (h0:s≠[]) (h:s.length≤64):pemL s=s++[10]:=by
 rw[pemL_ne h0,List.take_of_length_le h,List.drop_eq_nil_of_le h,pemL_nil]
theorem enc_len2 {b:List UInt8} (h:b.length≤1048576):(encF stdS b).length≤1500000:=by
 have hl:=spell_len stdS b
 unfold encF
 rw[List.length_append,List.length_replicate,hl]
 split<;>omega
theorem frame_fn (J:Inv) (b:List UInt8) (hb:b.length≤1048576):Fn Tryz.prog J 27 false [.by b] (.str (pemF b)):=by
 have hel:=enc_len2 hb
 refine fnI Tryz.func27 rfl (by kernel_rfl) rfl (LFa_ok J) ?_
 unfold Tryz.f27
 have n1:[45,45,45,45,45,66,69,71,73,78,32,80,85,66,76,73,67,32,75,69,89,45,45,45,45,45,10]=beginN:=rfl
 have n2:[45,45,45,45,45,69,78,68,32,80,85,66,76,73,67,32,75,69,89,45,45,45,45,45,10]=endN:=rfl
 have hfin:pemF b=beginN++pemL (encF stdS b)++endN:=by unfold pemF;rw[List.append_assoc]
 simp only[↓bD,bQ,reduceMul,reduceLeDiff,reduceEqDiff,reduceLT,reduceAdd,reduceSub,↓reduceIte,reduceCtorEq,reduceToNat,reducePow,Nat.reduceBEq,reduceDiv,LFa,LFaf,n1,n2]
 generalize encF stdS b=E at *
 refine⟨by omega,?_⟩
 refine LoopC.intro (α:=List UInt8×List UInt8) (fun y=>y.1++pemL y.2=beginN++pemL E∧y.1.length+2*y.2.length≤9000000) (fun y=>⟨[(3, .str y.2),(4, .str y.1)],[],0⟩) (fun y=>y.2.length) (beginN,E) ⟨rfl,by show beginN.length+2*E.length≤9000000;have:beginN.length=27:=rfl;omega⟩ ?_ ?_
 ·simp only[↓bD,bQ,reduceMul,reduceLeDiff,reduceEqDiff,reduceLT,reduceAdd,reduceSub,↓reduceIte,reduceCtorEq,reduceToNat,reducePow,Nat.reduceBEq,reduceDiv]
 ·rintro⟨out,s⟩ ⟨h1,h2⟩
  simp only at h1 h2
  have hcut:cutL s 0 64=s.take 64:=by rw[cutL_eq];simp
  have hcl:(s.take 64).length≤64:=by rw[List.length_take];omega
  have e25:endN.length=25:=rfl
  simp only[↓bD,bQ,reduceMul,reduceLeDiff,reduceEqDiff,reduceLT,reduceAdd,reduceSub,↓reduceIte,reduceCtorEq,reduceToNat,reducePow,Nat.reduceBEq,reduceDiv,LFa,LFaf,n1,n2,hcut]
  refine⟨fun h=> ?_,fun h=>⟨fun h'=> ?_,fun h'=> ?_⟩⟩
  ·have h:=of_decide_eq_true h
   refine⟨by omega,by omega,by omega,by simp only[List.length_append];omega,by omega,by omega,Again.intro (out++s.take 64++[10],s.drop 64) ⟨?_,?_⟩ ?_ ?_⟩
   ·show out++s.take 64++[10]++pemL (s.drop 64)=_
    rw[←h1,pemL_ne (s:=s) (by rintro rfl;simp at h)]
    simp
   ·show(out++s.take 64++[10]).length+2*(s.drop 64).length≤9000000
    simp only[List.length_append,List.length_drop,List.length_singleton];omega
   ·show(s.drop 64).length<s.length
    rw[List.length_drop];omega
   ·simp only[↓bD,bQ,reduceMul,reduceLeDiff,reduceEqDiff,reduceLT,reduceAdd,reduceSub,↓reduceIte,reduceCtorEq,reduceToNat,reducePow,Nat.reduceBEq,reduceDiv]
    rw[cutL_eq]
    exact List.take_of_length_le (by rw[List.length_drop];omega)
  ·have h:=of_decide_eq_false h
   have h':=of_decide_eq_true h'
   rw[pemL_small (by rintro rfl;simp at h') (by omega)] at h1
   refine⟨by omega,by simp only[List.length_append];omega,by simp only[List.length_append,List.length_singleton];omega,?_⟩
   rw[hfin,←h1]
   simp
  ·have h':=of_decide_eq_false h'
   obtain rfl:s=[]:=List.length_eq_zero_iff.1 (by omega)
   rw[pemL_nil,List.append_nil] at h1
   refine⟨by omega,?_⟩
   rw[hfin,←h1]
def LFbf:FuncId→List V→CR:=fun f args=>tab [(17,cF [] false (.bb true)),
 (27,cY fun b=>cF [b.length≤1048576] false (.str (pemF b)))] LKbf f args
def LFb (J:Inv):Sig:=⟨J,sdf,LFbf,noH,0⟩
theorem LFb_ok (J:Inv) (hJ: ∀w F,J.I w F→JV.I w F) (hE:EdT J):SigOk Tryz.prog (LFb J):= .plain (tab_ok (.c (.z fun _=>started_fn J hJ hE)<|
 .c (.y fun b=> .z fun⟨c0,_⟩=>frame_fn J b c0)<| .n) (LKb_ok J hJ hE).1)
theorem pemF_len {b:List UInt8} (h:b.length≤1048576):(pemF b).length≤4000000∧52≤(pemF b).length:=by
 have h1:=enc_len2 h
 have h2:=pemL_len _ (encF stdS b) (Nat.le_refl _)
 have e1:beginN.length=27:=rfl
 have e2:endN.length=25:=rfl
 unfold pemF
 simp only[List.length_append,e1,e2]
 omega
theorem bits_xor8 {a b:Nat} (ha:a<256) (hb:b<256):bits .xor .u8 (a:Int) (b:Int)=((a^^^b:Nat):Int):=by
 have hx:a^^^b<2^8:=Nat.xor_lt_two_pow (by omega) (by omega)
 have h1:(BitVec.ofInt 8 (a:Int)).toNat=a:=by rw[BitVec.ofInt_natCast,BitVec.toNat_ofNat];exact Nat.mod_eq_of_lt (by omega)
 have h2:(BitVec.ofInt 8 (b:Int)).toNat=b:=by rw[BitVec.ofInt_natCast,BitVec.toNat_ofNat];exact Nat.mod_eq_of_lt (by omega)
 show IntKind.u8.wrap ((BitVec.ofInt 8 (a:Int)^^^BitVec.ofInt 8 (b:Int)).toNat:Int)=_
 rw[BitVec.toNat_xor,h1,h2,show∀n:Int,IntKind.u8.wrap n=n%256 from fun n=>rfl]
 omega
theorem xor_ne {S:List UInt8} {j:Nat} (hj:j<S.length) {y:Int} (h:y≠0) (h0:0≤y) (h1:y<256):S[j]?≠some (u8 (bt .xor .u8 (byteAt S j) y))∧0≤bt .xor .u8 (byteAt S j) y∧bt .xor .u8 (byteAt S j) y<256:=by
 obtain⟨n,rfl⟩: ∃n:Nat,y=n:=⟨y.toNat,by omega⟩
 obtain⟨a,ha⟩: ∃a,S[j]?=some a:=⟨S[j],List.getElem?_eq_getElem hj⟩
 have hb:byteAt S j=(a.toNat:Int):=by unfold byteAt;rw[List.getD_eq_getElem?_getD,ha];rfl
 have hal:=a.toNat_lt
 have hx:a.toNat^^^n<2^8:=Nat.xor_lt_two_pow (by omega) (by omega)
 rw[hb,bt_eq,bits_xor8 hal (by omega),ha]
 refine⟨fun e=>h ?_,by omega,by omega⟩
 have e1:=congrArg UInt8.toNat (Option.some.inj e)
 have e2:=u8_toNat ((a.toNat^^^n:Nat):Int) (by omega) (by omega)
 have e3:a.toNat=a.toNat^^^n:=by omega
 have e4:a.toNat^^^(a.toNat^^^n)=n:=by rw[←Nat.xor_assoc,Nat.xor_self,Nat.zero_xor]
 rw[←e3,Nat.xor_self] at e4
 omega
theorem set_cut {S:List UInt8} {j:Nat} (c:UInt8) (hj:j<S.length):cutL S 0 j++[c]++cutL S (j+1) (S.length-(j+1))=S.set j c:=by
 rw[cutL_eq,cutL_eq,List.set_eq_take_append_cons_drop,if_pos hj,List.drop_zero,List.take_of_length_le (l:=S.drop (j+1)) (by rw[List.length_drop];omega)]
 simp
theorem frames0_own (J:Inv) (hJ: ∀w F,J.I w F→JV.I w F) (hE:EdT J) (at_:Int) (by_:Int):FnH Tryz.prog J 7 [.by [], .i at_, .val (.int .u8 by_)] [] 0 (.bb true) [] 9:=by
 have hu:unF (pemF [])=(z0,92):=by rw[unF_pemF,if_pos rfl]
 obtain⟨hl, -⟩:=pemF_len (b:=[]) (by simp)
 refine fnJ Tryz.func7 rfl (by kernel_rfl) (LFb_ok J hJ hE) rfl ?_
 unfold Tryz.f7
 have zV:z0.V= .st [.i 0, .i 0, .by [], .by [], .by [], .by [], .by []]:=rfl
 obtain⟨S,hS⟩: ∃S,pemF []=S:=⟨_,rfl⟩
 rw[hS] at hu hl
 have e92:((92:Int)==92)=true:=rfl
 have e0:(((0:Nat):Int)==0)=true:=rfl
 simp only[↓bD,bQ,reduceMul,reduceLeDiff,reduceEqDiff,reduceLT,reduceAdd,reduceSub,↓reduceIte,reduceCtorEq,reduceToNat,reducePow,Nat.reduceBEq,reduceDiv,LFb,LFbf,LKbf,LKaf,cK,cKK,keyW,byN,zV,hS,hu,e92,e0]
 repeat' with_reducible apply And.intro
 all_goals first|omega|(simp;done)|(refine RenC.skip ?_;simp only[↓bD,bQ,reduceMul,reduceLeDiff,reduceEqDiff,reduceLT,reduceAdd,reduceSub,↓reduceIte,reduceCtorEq,reduceToNat,reducePow,Nat.reduceBEq,reduceDiv])
theorem frames1_own (J:Inv) (hJ: ∀w F,J.I w F→JV.I w F) (hE:EdT J) (b:List UInt8) (hb:b.length≤1048576) (h0:b≠[]) (at_:Int) (by_:Int) (hby:0≤by_∧by_<256) (hat: -9223372036854775808≤at_∧at_≤9223372036854775807):FnH Tryz.prog J 7 [.by b, .i at_, .val (.int .u8 by_)] [] 0 (.bb true) [] 9:=by
 have hu:unF (pemF b)=parK b:=by rw[unF_pemF,if_neg h0]
 obtain⟨hl,hl2⟩:=pemF_len hb
 have u1:=frame_nl b
 have u2:=frame_blank b
 have u3:=frame_cut b
 have u4:=fun j (hj:j<(pemF b).length) c=>frame_byte b (j:=j) hj (c:=c)
 have pk:=parK_ok b
 have hbe:((b.length:Int)==0)=false:=beq_eq_false_iff_ne.2 (by have:=List.length_pos_iff.2 h0;omega)
 rcases hP:parK b with ⟨⟨kty,crv,s,n,e,x,y⟩,c⟩
 rw[hP] at hu pk
 have sk:=skB_self ⟨kty,crv,s,n,e,x,y⟩
 refine fnJ Tryz.func7 rfl (by kernel_rfl) (LFb_ok J hJ hE) rfl ?_
 unfold Tryz.f7
 have zV:z0.V= .st [.i 0, .i 0, .by [], .by [], .by [], .by [], .by []]:=rfl
 have ec:(c==c)=true:=beq_self_eq_true c
 have e92:((92:Int)==92)=true:=rfl
 have cT:cutL (pemF b) 0 (((pemF b).length:Int)-1).toNat=(pemF b).take ((pemF b).length-1):=by rw[cutL_eq,show(((pemF b).length:Int)-1).toNat=(pemF b).length-1 by omega];simp
 have hS: ∃S,pemF b=S:=⟨_,rfl⟩
 obtain⟨S,hS⟩:=hS
 rw[hS] at hu hl hl2 u1 u2 u3 u4 cT
 simp only[↓bD,bQ,reduceMul,reduceLeDiff,reduceEqDiff,reduceLT,reduceAdd,reduceSub,↓reduceIte,reduceCtorEq,reduceToNat,reducePow,Nat.reduceBEq,reduceDiv,LFb,LFbf,LKbf,LKaf,cK,cKK,keyW,byN,Ky.V.eq_1,keyV,zV,hS,hu,hP,u1,u2,u3,cT,ec,e92,sk,hbe]
 have hst:(S.take (S.length-1)).length≤16777216:=by rw[List.length_take];omega
 refine⟨hb,by omega,by omega,pk,by omega,by simp only[List.length_append,List.length_singleton];omega,by omega,by omega,by constructor<;>omega,by omega,by omega,hst,fun _=>by constructor<;>omega,fun h1 h2=> ?_,fun h1=> ?_,fun h1=> ?_,fun h1 h2=> ?_,fun h1=> ?_,fun h1=> ?_⟩
 ·rw[h1,decide_eq_true h2];rfl
 ·simp only[Bool.and_eq_true,decide_eq_true_eq] at h1;omega
 ·simp only[Bool.and_eq_true,decide_eq_true_eq] at h1;omega
 ·rw[h1,h2];rfl
 ·exact RenC.skip (by simp only[↓bD,bQ,reduceMul,reduceLeDiff,reduceEqDiff,reduceLT,reduceAdd,reduceSub,↓reduceIte,reduceCtorEq,reduceToNat,reducePow,Nat.reduceBEq,reduceDiv])
 ·simp only[Bool.or_eq_false_iff,decide_eq_false_iff_not,beq_eq_false_iff_ne,Bool.and_eq_false_iff,Bool.not_eq_false',beq_iff_eq,ne_eq] at h1
  obtain⟨⟨⟨a1,a2⟩,a3⟩,a4⟩:=h1
  obtain⟨j,rfl⟩: ∃j:Nat,at_=j:=⟨at_.toNat,by omega⟩
  have hj:j<S.length:=by omega
  obtain⟨x1,x2,x3⟩:=xor_ne hj a3 hby.1 hby.2
  have hf:j<27∨S.length-25≤j∨S[j]?=some 10:=by
   rcases a4 with (a4|a4)|a4
   ·left;omega
   ·right;left;omega
   ·right;right
    have a4:byteAt S j=10:=a4
    unfold byteAt at a4
    rw[List.getD_eq_getElem?_getD,List.getElem?_eq_getElem hj,Option.getD_some] at a4
    rw[List.getElem?_eq_getElem hj]
    exact congrArg some (UInt8.toNat_inj.1 (by have:(10:UInt8).toNat=10:=rfl;omega))
  have e1:((j:Int)).toNat=j:=Int.toNat_natCast j
  have e2:((j:Int)+1).toNat=j+1:=by omega
  have hT:=u4 j hj _ x1 hf
  rw[←set_cut _ hj] at hT
  have hTl:(cutL S 0 j++[u8 (bt .xor .u8 (byteAt S j) by_)]++cutL S (j+1) (S.length-(j+1))).length≤16777216:=by rw[set_cut _ hj,List.length_set];omega
  refine DrawC.sch [(0,some []),(1,some []),(2,some []),(3,some []),(4,some []),(5,some []),(6,some []),(7,some []),(11,some []),(12,some []),(13,some []),(14,some []),(8,none),(9,none),(10,some []),(15,some []),(16,some [])] [] (by kernel_rfl) ?_
  simp only[↓bD,bQ,reduceMul,reduceLeDiff,reduceEqDiff,reduceLT,reduceAdd,reduceSub,↓reduceIte,reduceCtorEq,reduceToNat,reducePow,Nat.reduceBEq,reduceDiv,LFb,LFbf,LKbf,LKaf,cK,cKK,keyW,byN,zV,hS,e1,e2,hT,e92]
  have l1:(cutL S 0 j).length≤4000000:=by rw[cutL_eq,List.length_take,List.length_drop];omega
  have l2:(cutL S (j+1) (S.length-(j+1))).length≤4000000:=by rw[cutL_eq,List.length_take,List.length_drop];omega
  repeat' with_reducible apply And.intro
  all_goals first|omega|exact hTl|(constructor<;>omega)|(simp only[List.length_append,List.length_singleton];omega)|(refine RenC.skip ?_;simp only[↓bD,bQ,reduceMul,reduceLeDiff,reduceEqDiff,reduceLT,reduceAdd,reduceSub,↓reduceIte,reduceCtorEq,reduceToNat,reducePow,Nat.reduceBEq,reduceDiv])
theorem SpkiFrames_fn (J:Inv) (hJ: ∀w F,J.I w F→JV.I w F) (hE:EdT J) (b:List UInt8) (hb:b.length≤1048576) (at_:Int) (hat: -9223372036854775808≤at_∧at_≤9223372036854775807) (by_:Int) (hby:0≤by_∧by_≤255):Fn Tryz.prog J 7 false [.by b, .i at_, .val (.int .u8 by_)] (.bb true):=by
 by_cases h0:b=[]
 ·subst h0
  exact Fn.of_plain (frames0_own J hJ hE at_ by_) rfl
 ·exact Fn.of_plain (frames1_own J hJ hE b hb h0 at_ by_ (by omega) hat) rfl
end Go.Proofs.YtfengpdaocgcnaaGreatDoor
