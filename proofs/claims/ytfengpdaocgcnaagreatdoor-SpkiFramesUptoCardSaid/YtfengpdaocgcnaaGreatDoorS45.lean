/- The key of an element: numbers, points. The key of a SubjectPublicKeyInfo. -/
import Derived.Test.YtfengpdaocgcnaaGreatDoorQ44
namespace Go.Proofs.YtfengpdaocgcnaaGreatDoor
open Nat (reduceMul reduceLeDiff reduceEqDiff reduceLT reduceAdd reduceSub reduceDiv)
open Int (reduceToNat reducePow)
open Go.RowKit
set_option linter.unusedSimpArgs false
set_option maxRecDepth 100000
def cE (k:Tlv→List V→CR):List V→CR
 | .st [.val (.int .i64 a), .by d, .val (.int .i64 b)]::r=>k ⟨a,d,b⟩ r
 |_=>none
theorem EntAt.e {P:Program} {J:Inv} {f:FuncId} {mk:List V→List V} {k:Tlv→List V→CR} (h: ∀x,EntAt P J f (fun r=>mk (tlvV x::r)) (k x)):EntAt P J f mk (cE k):=fun args l fr r hk hl=>by
 unfold cE at hk
 split at hk
 ·exact h ⟨_,_,_⟩ _ l fr r hk hl
 ·cases hk
theorem fl_ge (ts:List Tlv) (ins:Nat→Nat): ∀n a,n≤(fl ts ins a n).length
 |0,a=>Nat.zero_le _
 |n+1,a=>by
  have:=fl_ge ts ins n (a+1)
  rw[fl,List.length_append]
  simp only[pieceT,List.length_cons]
  omega
theorem parse_le (b:List UInt8):(parseF b).1.length≤65536∧ ∀i,((parseF b).1.getD i default).data.length≤65536:=by
 by_cases h:(parseF b).2.1=0
 ·obtain⟨_,hs,hp,hl⟩:=print_parse h
  generalize (parseF b).1=ts at hs hp
  unfold printF at hp
  rw[if_neg (by rw[hs];simp)] at hp
  split at hp
  ·simp at hp
  ·have hf:fl ts (inI ts) 0 ts.length=b:=by simpa using hp
   have h1:=fl_ge ts (inI ts) ts.length 0
   rw[hf] at h1
   refine⟨by omega,fun x=> ?_⟩
   rcases Nat.lt_or_ge x ts.length with hx|hx
   ·have h2:=congrArg List.length (fl_split ts (inI ts) (Nat.zero_le x) (Nat.le_of_lt hx))
    rw[Nat.sub_zero,hf,List.length_append,show ts.length-x=(ts.length-(x+1))+1 from by omega,fl,List.length_append] at h2
    simp only[pieceT,List.length_cons,List.length_append,datT] at h2
    omega
   ·rw[List.getD_eq_getElem?_getD,List.getElem?_eq_none hx];exact Nat.zero_le _
 ·rw[(parse_err h).1];exact⟨by simp,fun i=>by simp[show(default:Tlv).data=[] from rfl]⟩
theorem parse_right (b:List UInt8) {x:Nat} (hx:x<(parseF b).1.length) (hi:innerF ((parseF b).1.getD x default).tag=false):((parseF b).1.getD x default).kids=0∧rightF ((parseF b).1.getD x default).tag ((parseF b).1.getD x default).data=true:=by
 by_cases h:(parseF b).2.1=0
 ·obtain⟨_,hs,_⟩:=print_parse h
  obtain⟨_,_,h3⟩:=shapedF_shp hs
  obtain⟨e,y,_,h4⟩:=h3 x hx
  have key: ∀rec,stB (parseF b).1 rec x=some y→((parseF b).1.getD x default).kids=0∧rightF ((parseF b).1.getD x default).tag ((parseF b).1.getD x default).data=true:=fun rec h5=>by
   obtain⟨_,_,h6|h6⟩:=stB_cases h5
   ·exact⟨h6.2.1,h6.2.2.1⟩
   ·unfold tagT at h6;rw[hi] at h6;exact absurd h6.1 (by simp)
  cases e<;>exact key _ h4
 ·rw[(parse_err h).1] at hx;exact absurd hx (by simp)
def sizeC (c:Int):Int:=if c=1 then 32 else if c=2 then 48 else 0
def BRzf:FuncId→List V→CR:=fun f args=>tab [(54,cI .i64 fun c=>cF [] false (ofV c))] noF f args
def BRz (J:Inv):Sig:=⟨J,sdf,BRzf,noH,0⟩
theorem BRz_ok (J:Inv):SigOk Tryz.prog (BRz J):= .plain (tab_ok (.c (.i fun c=> .z fun _=>of_fn J c)<| .n) noF_ok)
theorem size1_fn (J:Inv):Fn Tryz.prog J 26 false [.i 1] (.i 32):=by
 refine fnI Tryz.func26 rfl (by kernel_rfl) rfl (BRz_ok J) ?_
 unfold Tryz.f26
 simp only[↓bD,bQ,reduceMul,reduceLeDiff,reduceEqDiff,reduceLT,reduceAdd,reduceSub,↓reduceIte,reduceCtorEq,reduceToNat,reducePow,Nat.reduceBEq,reduceDiv,cG,hG,BRz,BRzf,ofV,grV,pN,bI,stepV,gcl,two_one]
 trivial
theorem size2_fn (J:Inv):Fn Tryz.prog J 26 false [.i 2] (.i 48):=by
 refine fnI Tryz.func26 rfl (by kernel_rfl) rfl (BRz_ok J) ?_
 unfold Tryz.f26
 simp only[↓bD,bQ,reduceMul,reduceLeDiff,reduceEqDiff,reduceLT,reduceAdd,reduceSub,↓reduceIte,reduceCtorEq,reduceToNat,reducePow,Nat.reduceBEq,reduceDiv,cG,hG,BRz,BRzf,ofV,grV,pN,bI,stepV,gcl,two_one]
 trivial
theorem csize_fn (J:Inv) (c:Int) (h:c=1∨c=2):Fn Tryz.prog J 26 false [.i c] (.i (sizeC c)):=by
 rcases h with rfl|rfl
 ·exact size1_fn J
 ·exact size2_fn J
def BRaf:FuncId→List V→CR:=fun f args=>tab [(24,cE fun t=>cF [t.data.length≤65536] false (.tu [.str (oidF t).1, .bb (oidF t).2])),
 (25,cE fun t=>cF [t.data.length≤65536] false (.tu [.by (uintF t).1, .bb (uintF t).2])),
 (23,cY fun b=>cF [b.length≤140737488355328] false (.tu [tlsV (parseF b).1, .i (parseF b).2.1, .i (parseF b).2.2])),
 (74,cS fun s=>cF [] false (errW s 80)),
 (34,cI .i64 fun c=>cF [] false (.str (cvN c))),
 (26,cI .i64 fun c=>cF [c=1∨c=2] false (.i (sizeC c)))] noF f args
def BRa (J:Inv):Sig:=⟨J,sdf,BRaf,noH,0⟩
theorem BRa_ok (J:Inv) (hJ: ∀w F,J.I w F→JV.I w F):SigOk Tryz.prog (BRa J):= .plain (tab_ok (.c (.e fun t=> .z fun⟨_,_⟩=>(toJV (Oid_fn t (by omega))).weak hJ)<|
 .c (.e fun t=> .z fun⟨_,_⟩=>Uint_fn J t (by omega))<|
 .c (.y fun b=> .z fun⟨c0,_⟩=>parse_fn J b c0)<|
 .c (.s fun s=> .z fun _=>shape_fn J s)<|
 .c (.i fun c=> .z fun _=>curveName_fn J c)<|
 .c (.i fun c=> .z fun⟨c0,_⟩=>csize_fn J c c0)<| .n) noF_ok)
def isF (t:Tlv) (s:List UInt8):Bool:=(oidF t).2&&((oidF t).1==s)
theorem spis_fn (J:Inv) (hJ: ∀w F,J.I w F→JV.I w F) (t:Tlv) (s:List UInt8) (ht:t.data.length≤65536):Fn Tryz.prog J 75 false [tlvV t, .str s] (.bb (isF t s)):=by
 refine fnI Tryz.func75 rfl (by kernel_rfl) rfl (BRa_ok J hJ) ?_
 unfold Tryz.f75
 simp only[↓bD,bQ,reduceMul,reduceLeDiff,reduceEqDiff,reduceLT,reduceAdd,reduceSub,↓reduceIte,reduceCtorEq,reduceToNat,reducePow,Nat.reduceBEq,reduceDiv,BRa,BRaf,cE,tlvV]
 exact⟨ht,rfl⟩
def z0:Ky:=⟨0,0,[],[],[],[],[]⟩
def twoN:List UInt8:=[116,119,111,32,110,117,109,98,101,114,115]
def rsaF (b:List UInt8):Ky×Option (List UInt8×Int):=
 if (parseF b).2.1≠0∨(parseF b).1.length≠3∨((parseF b).1.getD 0 default).tag≠48∨((parseF b).1.getD 0 default).kids≠2 then (z0,some (twoN,80))
 else if (uintF ((parseF b).1.getD 1 default)).2=true∧(uintF ((parseF b).1.getD 2 default)).2=true then (⟨2,0,[],(uintF ((parseF b).1.getD 1 default)).1,(uintF ((parseF b).1.getD 2 default)).1,[],[]⟩,none)
 else (z0,some (twoN,80))
theorem srsa_fn (J:Inv) (hJ: ∀w F,J.I w F→JV.I w F) (b:List UInt8) (hb:b.length≤65536):Fn Tryz.prog J 76 false [.by b] (.tu [(rsaF b).1.V,errO (rsaF b).2]):=by
 refine fnK (t:=2) (ty:=26) (u:=3) (nx:=9) (by kernel_rfl) Tryz.func76 rfl (by kernel_rfl) (BRa_ok J hJ) rfl (errO_cl _) ?_
 obtain⟨hl,hd⟩:=parse_le b
 simp only[↓bD,bQ,reduceMul,reduceLeDiff,reduceEqDiff,reduceLT,reduceAdd,reduceSub,↓reduceIte,reduceCtorEq,reduceToNat,reducePow,Nat.reduceBEq,reduceDiv,bnB,BRa,BRaf,cE,tlvV,tlsV,tlvD,errW]
 refine⟨by omega,fun _=>by omega,fun h=> ?_,fun _=>by omega,fun h=> ?_,fun h=> ?_,fun h=> ?_⟩
 ·simp only[Bool.or_eq_false_iff,Bool.not_eq_false',beq_iff_eq] at h;omega
 ·simp only[Bool.or_eq_false_iff,Bool.not_eq_false',beq_iff_eq] at h;omega
 ·have e:rsaF b=(z0,some (twoN,80)):=by
   unfold rsaF
   rw[if_pos]
   simp only[Bool.or_eq_true,Bool.not_eq_true',beq_eq_false_iff_ne,or_assoc] at h
   omega
  rw[e]
  refine RenC.skip ?_
  simp only[↓bD,bQ,reduceMul,reduceLeDiff,reduceEqDiff,reduceLT,reduceAdd,reduceSub,↓reduceIte,reduceCtorEq,reduceToNat,reducePow,Nat.reduceBEq,reduceDiv,RX,errP,errO,errW,kyR,keyW,byN,Ky.V,keyV,z0,twoN]
 ·simp only[Bool.or_eq_false_iff,Bool.not_eq_false',beq_iff_eq] at h
  have hc: ¬((parseF b).2.1≠0∨(parseF b).1.length≠3∨((parseF b).1.getD 0 default).tag≠48∨((parseF b).1.getD 0 default).kids≠2):=by omega
  have e:rsaF b=if (uintF ((parseF b).1.getD 1 default)).2=true∧(uintF ((parseF b).1.getD 2 default)).2=true then (⟨2,0,[],(uintF ((parseF b).1.getD 1 default)).1,(uintF ((parseF b).1.getD 2 default)).1,[],[]⟩,none) else (z0,some (twoN,80)):=by
   unfold rsaF
   rw[if_neg hc]
  refine⟨by omega,by omega,hd 1,by omega,by omega,hd 2,fun h=> ?_,fun h=> ?_⟩
  ·rw[if_neg (fun h2=>by rw[h2.1,h2.2] at h;cases h)] at e
   rw[e]
   refine RenC.skip ?_
   simp only[↓bD,bQ,reduceMul,reduceLeDiff,reduceEqDiff,reduceLT,reduceAdd,reduceSub,↓reduceIte,reduceCtorEq,reduceToNat,reducePow,Nat.reduceBEq,reduceDiv,RX,errP,errO,errW,kyR,keyW,byN,Ky.V,keyV,z0,twoN]
  ·rw[if_pos (by simpa only[Bool.or_eq_false_iff,Bool.not_eq_false'] using h)] at e
   rw[e]
   refine RenC.skip ?_
   simp only[↓bD,bQ,reduceMul,reduceLeDiff,reduceEqDiff,reduceLT,reduceAdd,reduceSub,↓reduceIte,reduceCtorEq,reduceToNat,reducePow,Nat.reduceBEq,reduceDiv,RX,errP,errO,errW,kyR,keyW,byN,Ky.V,keyV]
def pointN:List UInt8:=[112,111,105,110,116]
def ecF (c:Int) (b:List UInt8):Ky×Option (List UInt8×Int):=
 if (b.length:Int)≠2*sizeC c+1∨byteAt b 0≠4 then (z0,some (pointN,80))
 else (⟨3,c,[],[],[],(b.drop 1).take (sizeC c).toNat,b.drop ((sizeC c).toNat+1)⟩,none)
theorem sec_fn (J:Inv) (hJ: ∀w F,J.I w F→JV.I w F) (c:Int) (hc:c=1∨c=2) (b:List UInt8) (_hb:b.length≤65536):Fn Tryz.prog J 77 false [.i c, .by b] (.tu [(ecF c b).1.V,errO (ecF c b).2]):=by
 refine fnK (t:=4) (ty:=26) (u:=5) (nx:=9) (by kernel_rfl) Tryz.func77 rfl (by kernel_rfl) (BRa_ok J hJ) rfl (errO_cl _) ?_
 obtain⟨m,hm,hm2⟩: ∃m:Nat,sizeC c=(m:Int)∧m≤48:=by
  rcases hc with rfl|rfl
  ·exact⟨32,rfl,by omega⟩
  ·exact⟨48,rfl,by omega⟩
 simp only[↓bD,bQ,reduceMul,reduceLeDiff,reduceEqDiff,reduceLT,reduceAdd,reduceSub,↓reduceIte,reduceCtorEq,reduceToNat,reducePow,Nat.reduceBEq,reduceDiv,bnB,BRa,BRaf,cE,tlvV,tlsV,tlvD,errW,hm]
 refine⟨hc,⟨by omega,by omega⟩,⟨by omega,by omega⟩,fun _=>by omega,fun h=> ?_,fun h=> ?_,fun h=> ?_⟩
 ·simp only[Bool.not_eq_false',beq_iff_eq] at h;omega
 ·have e:ecF c b=(z0,some (pointN,80)):=by
   unfold ecF
   rw[if_pos]
   simp only[Bool.or_eq_true,Bool.not_eq_true',beq_eq_false_iff_ne] at h
   rw[hm];exact h
  rw[e]
  refine RenC.skip ?_
  simp only[↓bD,bQ,reduceMul,reduceLeDiff,reduceEqDiff,reduceLT,reduceAdd,reduceSub,↓reduceIte,reduceCtorEq,reduceToNat,reducePow,Nat.reduceBEq,reduceDiv,RX,errP,errO,errW,kyR,keyW,byN,Ky.V,keyV,z0,pointN]
 ·simp only[Bool.or_eq_false_iff,Bool.not_eq_false',beq_iff_eq] at h
  have e:ecF c b=(⟨3,c,[],[],[],(b.drop 1).take m,b.drop (m+1)⟩,none):=by
   unfold ecF
   rw[if_neg (by rw[hm];omega),hm]
   rfl
  rw[e]
  refine DrawC.sch [(0,some []),(1,some []),(2,some []),(3,some []),(4,some []),(6,some []),(7,some []),(8,some []),(9,some []),(5,none),(10,none),(11,none),(12,none),(13,some [0,1,2,3,4,5,6])] [(12,[0,1,2,3,4,5,6])] (by kernel_rfl) ?_
  have e1:((m:Int)+1).toNat=m+1:=by omega
  have e2:(b.drop (m+1)).take (b.length-(m+1))=b.drop (m+1):=List.take_of_length_le (by simp)
  simp only[↓bD,bQ,reduceMul,reduceLeDiff,reduceEqDiff,reduceLT,reduceAdd,reduceSub,↓reduceIte,reduceCtorEq,reduceToNat,reducePow,Nat.reduceBEq,reduceDiv,BRa,BRaf,e1,e2,Nat.add_sub_cancel]
  refine⟨⟨by omega,by omega⟩,by omega,by omega,by omega,⟨by omega,by omega⟩,by omega,by omega,by simp only[List.length_take,List.length_drop];omega,by simp only[List.length_drop];omega,RenC.skip ?_⟩
  simp only[↓bD,bQ,reduceMul,reduceLeDiff,reduceEqDiff,reduceLT,reduceAdd,reduceSub,↓reduceIte,reduceCtorEq,reduceToNat,reducePow,Nat.reduceBEq,reduceDiv,RX,errP,errO,errW,kyR,keyW,byN,Ky.V,keyV]
  skip
def bytesN:List UInt8:=[98,121,116,101,115]
def elementN:List UInt8:=[101,108,101,109,101,110,116]
def bitsN:List UInt8:=[98,105,116,115]
def algN:List UInt8:=[97,108,103,111,114,105,116,104,109]
def BRbf:FuncId→List V→CR:=fun f args=>tab [(75,cE fun t=>cS fun s=>cF [t.data.length≤65536] false (.bb (isF t s))),
 (76,cY fun b=>cF [b.length≤65536] false (.tu [(rsaF b).1.V,errO (rsaF b).2])),
 (77,cI .i64 fun c=>cY fun b=>cF [c=1∨c=2,b.length≤65536] false (.tu [(ecF c b).1.V,errO (ecF c b).2]))] BRaf f args
def BRb (J:Inv):Sig:=⟨J,sdf,BRbf,noH,0⟩
theorem BRb_ok (J:Inv) (hJ: ∀w F,J.I w F→JV.I w F):SigOk Tryz.prog (BRb J):= .plain (tab_ok (.c (.e fun t=> .s fun s=> .z fun⟨c0,_⟩=>spis_fn J hJ t s c0)<|
 .c (.y fun b=> .z fun⟨c0,_⟩=>srsa_fn J hJ b c0)<|
 .c (.i fun c=> .y fun b=> .z fun⟨c0,c1,_⟩=>sec_fn J hJ c c0 b c1)<| .n) (BRa_ok J hJ).1)
def rdBad (ts:List Tlv) (code:Int):Bool:= !(code==0)||decide ((ts.length:Int)<4)||decide (5<(ts.length:Int))|| !((ts.getD 0 default).tag==48)|| !((ts.getD 0 default).kids==2)|| !((ts.getD 1 default).tag==48)|| !((ts.getD 1 default).kids==(ts.length:Int)-3)
def rdBit (t:Tlv):Bool:= !(t.tag==3)|| !(byteAt t.data 0==0)
def rdKey (ts:List Tlv) (key:List UInt8):Ky×Option (List UInt8×Int):=
 if ((ts.length:Int)==4&&isF (ts.getD 2 default) edN&&(key.length:Int)==32)=true then (⟨4,3,[],[],[],key,[]⟩,none)
 else if ((ts.length:Int)==5&&isF (ts.getD 2 default) rsaN&&(ts.getD 3 default).tag==5)=true then rsaF key
 else if ((ts.length:Int)==5&&isF (ts.getD 2 default) ecN&&isF (ts.getD 3 default) p256N)=true then ecF 1 key
 else if ((ts.length:Int)==5&&isF (ts.getD 2 default) ecN&&isF (ts.getD 3 default) p384N)=true then ecF 2 key
 else (z0,some (algN,80))
def readF' (ts:List Tlv) (code:Int):Ky×Option (List UInt8×Int):=
 if (code==10)=true then (z0,some (bytesN,10)) else if rdBad ts code=true then (z0,some (elementN,80)) else if rdBit (ts.getD (ts.length-1) default)=true then (z0,some (bitsN,80)) else rdKey ts ((ts.getD (ts.length-1) default).data.drop 1)
def sreadF (b:List UInt8):Ky×Option (List UInt8×Int):=readF' (parseF b).1 (parseF b).2.1
theorem cvN1:cvN 1=p256N:=rfl
theorem cvN2:cvN 2=p384N:=rfl
theorem sread_fn (J:Inv) (hJ: ∀w F,J.I w F→JV.I w F) (b:List UInt8) (hb:b.length≤140737488355328):Fn Tryz.prog J 43 false [.by b] (.tu [(sreadF b).1.V,errO (sreadF b).2]):=by
 refine fnK (t:=2) (ty:=26) (u:=3) (nx:=9) (by kernel_rfl) Tryz.func43 rfl (by kernel_rfl) (BRb_ok J hJ) rfl (errO_cl _) ?_
 obtain⟨hl,hd⟩:=parse_le b
 have hr: ∀x,x<(parseF b).1.length→((parseF b).1.getD x default).tag=3→0<((parseF b).1.getD x default).data.length:=fun x hx ht=>by
  have h:=(parse_right b hx (by rw[ht];decide)).2
  rw[ht] at h
  rcases hz:((parseF b).1.getD x default).data with _|⟨c,r⟩
  ·rw[hz] at h;exact absurd h (by decide)
  ·simp
 unfold sreadF
 have n1:[49,46,51,46,49,48,49,46,49,49,50]=edN:=rfl
 have n2:[49,46,50,46,56,52,48,46,49,49,51,53,52,57,46,49,46,49,46,49]=rsaN:=rfl
 have n3:[49,46,50,46,56,52,48,46,49,48,48,52,53,46,50,46,49]=ecN:=rfl
 simp only[↓bD,bQ,reduceMul,reduceLeDiff,reduceEqDiff,reduceLT,reduceAdd,reduceSub,↓reduceIte,reduceCtorEq,reduceToNat,reducePow,Nat.reduceBEq,reduceDiv,bnB,BRb,BRbf,BRa,BRaf,cE,tlvV,tlsV,tlvD,errW,n1,n2,n3,cvN1,cvN2]
 generalize (parseF b).1=ts at hl hd hr⊢
 generalize (parseF b).2.1=code
 have e1:((ts.length:Int)-1).toNat=ts.length-1:=by omega
 simp only[e1]
 obtain⟨L,hL⟩: ∃L,ts.getD (ts.length-1) default=L:=⟨_,rfl⟩
 have hLd:=hd (ts.length-1)
 have hLr:=hr (ts.length-1)
 have cut:(L.data.drop 1).take (L.data.length-1)=L.data.drop 1:=List.take_of_length_le (by simp)
 rw[hL] at hLd hLr
 have hkl:(L.data.drop 1).length≤65536:=by rw[List.length_drop];omega
 simp only[hL,cut]
 generalize hkey:L.data.drop 1=key at hkl⊢
 unfold readF'
 rw[hL,hkey]
 refine⟨hb,fun h=> ?_,fun h0=> ?_⟩
 ·obtain rfl:code=10:=eq_of_beq h
  rw[if_pos h]
  refine RenC.skip ?_
  simp only[↓bD,bQ,reduceMul,reduceLeDiff,reduceEqDiff,reduceLT,reduceAdd,reduceSub,↓reduceIte,reduceCtorEq,reduceToNat,reducePow,Nat.reduceBEq,reduceDiv,RX,errP,errO,errW,kyR,keyW,byN,Ky.V,keyV,z0,bytesN]
 rw[if_neg (by rw[h0];simp)]
 refine⟨?_,?_,?_,?_,?_,?_,?_,?_,?_,fun h=> ?_,fun h=> ?_⟩
 iterate 9 (intro h;simp only[Bool.or_eq_false_iff,Bool.not_eq_false',beq_iff_eq,decide_eq_false_iff_not] at h;first|omega|(constructor<;>omega))
 ·rw[if_pos (show rdBad ts code=true from h)]
  refine RenC.skip ?_
  simp only[↓bD,bQ,reduceMul,reduceLeDiff,reduceEqDiff,reduceLT,reduceAdd,reduceSub,↓reduceIte,reduceCtorEq,reduceToNat,reducePow,Nat.reduceBEq,reduceDiv,RX,errP,errO,errW,kyR,keyW,byN,Ky.V,keyV,z0,elementN]
 rw[if_neg (show ¬rdBad ts code=true from fun e=>by rw[show rdBad ts code=false from h] at e;cases e)]
 simp only[Bool.or_eq_false_iff,Bool.not_eq_false',beq_iff_eq,decide_eq_false_iff_not] at h
 refine⟨⟨by omega,by omega⟩,by omega,by omega,fun _=>by omega,fun h3=> ?_,fun h3=> ?_,fun h3=> ?_⟩
 ·have:=hLr (by omega) (by simpa using h3)
  omega
 ·rw[if_pos (show rdBit L=true from h3)]
  refine RenC.skip ?_
  simp only[↓bD,bQ,reduceMul,reduceLeDiff,reduceEqDiff,reduceLT,reduceAdd,reduceSub,↓reduceIte,reduceCtorEq,reduceToNat,reducePow,Nat.reduceBEq,reduceDiv,RX,errP,errO,errW,kyR,keyW,byN,Ky.V,keyV,z0,bitsN]
 rw[if_neg (show ¬rdBit L=true from fun e=>by rw[show rdBit L=false from h3] at e;cases e)]
 simp only[Bool.or_eq_false_iff,Bool.not_eq_false',beq_iff_eq] at h3
 have hLp:=hLr (by omega) h3.1
 unfold rdKey
 refine⟨by omega,by omega,fun _=>by omega,fun h4=> ?_,fun _=>hd 2,fun h4=> ?_,fun h4=> ?_⟩
 ·simp only[beq_iff_eq] at h4;omega
 ·rw[if_pos h4]
  refine⟨by omega,RenC.skip ?_⟩
  simp only[↓bD,bQ,reduceMul,reduceLeDiff,reduceEqDiff,reduceLT,reduceAdd,reduceSub,↓reduceIte,reduceCtorEq,reduceToNat,reducePow,Nat.reduceBEq,reduceDiv,RX,errP,errO,errW,kyR,keyW,byN,Ky.V,keyV]
 rw[if_neg (by rw[h4];simp)]
 refine⟨fun _=>by omega,fun h5=> ?_,fun _=>hd 2,fun _=>by omega,fun h5=> ?_,fun h5=> ?_,fun h5=> ?_⟩
 ·simp only[beq_iff_eq] at h5;omega
 ·simp only[Bool.and_eq_true,beq_iff_eq] at h5;omega
 ·rw[if_pos h5]
  rcases hR:rsaF key with ⟨k,_|⟨p,c⟩⟩
  ·simp only[↓bD,bQ,reduceMul,reduceLeDiff,reduceEqDiff,reduceLT,reduceAdd,reduceSub,↓reduceIte,reduceCtorEq,reduceToNat,reducePow,Nat.reduceBEq,reduceDiv,hR,errO,errW,Ky.V,keyV]
   refine⟨hkl,RenC.skip ?_⟩
   simp only[↓bD,bQ,reduceMul,reduceLeDiff,reduceEqDiff,reduceLT,reduceAdd,reduceSub,↓reduceIte,reduceCtorEq,reduceToNat,reducePow,Nat.reduceBEq,reduceDiv,RX,errP,errO,errW,kyR,keyW,byN,Ky.V,keyV]
  ·simp only[↓bD,bQ,reduceMul,reduceLeDiff,reduceEqDiff,reduceLT,reduceAdd,reduceSub,↓reduceIte,reduceCtorEq,reduceToNat,reducePow,Nat.reduceBEq,reduceDiv,hR,errO,errW,Ky.V,keyV]
   refine⟨hkl,RenC.skip ?_⟩
   simp only[↓bD,bQ,reduceMul,reduceLeDiff,reduceEqDiff,reduceLT,reduceAdd,reduceSub,↓reduceIte,reduceCtorEq,reduceToNat,reducePow,Nat.reduceBEq,reduceDiv,RX,errP,errO,errW,kyR,keyW,byN,Ky.V,keyV]
 rw[if_neg (by rw[h5];simp)]
 refine DrawC.tree (.q 0 [] (.q 1 [] (.q 2 [] (.q 3 [] (.q 4 [] (.q 5 [] (.q 6 [] (.one 7 (.q 8 [] (.q 9 [] (.q 10 [] (.q 11 [] (.q 12 [] (.one 13 (.one 14 (.q 15 [] (.q 16 [] .done))))))))))))))))) [] (by kernel_rfl) ?_
 simp only[↓bD,bQ,reduceMul,reduceLeDiff,reduceEqDiff,reduceLT,reduceAdd,reduceSub,↓reduceIte,reduceCtorEq,reduceToNat,reducePow,Nat.reduceBEq,reduceDiv,bnB,BRb,BRbf,BRa,BRaf,cE,tlvV,tlsV,tlvD,n1,n2,n3,cvN1,cvN2]
 refine⟨fun _=>by omega,fun h6=> ?_,fun _=>hd 2,fun _=>by omega,fun h6=> ?_,fun _=>hd 3,fun h6=> ?_,fun h6=> ?_⟩
 ·simp only[beq_iff_eq] at h6;omega
 ·simp only[Bool.and_eq_true,beq_iff_eq] at h6;omega
 ·rw[if_pos h6]
  rcases hR:ecF 1 key with ⟨k,_|⟨p,c⟩⟩
  ·simp only[↓bD,bQ,reduceMul,reduceLeDiff,reduceEqDiff,reduceLT,reduceAdd,reduceSub,↓reduceIte,reduceCtorEq,reduceToNat,reducePow,Nat.reduceBEq,reduceDiv,hR,errO,errW,Ky.V,keyV]
   refine⟨.inl trivial,hkl,RenC.skip ?_⟩
   simp only[↓bD,bQ,reduceMul,reduceLeDiff,reduceEqDiff,reduceLT,reduceAdd,reduceSub,↓reduceIte,reduceCtorEq,reduceToNat,reducePow,Nat.reduceBEq,reduceDiv,RX,errP,errO,errW,kyR,keyW,byN,Ky.V,keyV]
  ·simp only[↓bD,bQ,reduceMul,reduceLeDiff,reduceEqDiff,reduceLT,reduceAdd,reduceSub,↓reduceIte,reduceCtorEq,reduceToNat,reducePow,Nat.reduceBEq,reduceDiv,hR,errO,errW,Ky.V,keyV]
   refine⟨.inl trivial,hkl,RenC.skip ?_⟩
   simp only[↓bD,bQ,reduceMul,reduceLeDiff,reduceEqDiff,reduceLT,reduceAdd,reduceSub,↓reduceIte,reduceCtorEq,reduceToNat,reducePow,Nat.reduceBEq,reduceDiv,RX,errP,errO,errW,kyR,keyW,byN,Ky.V,keyV]
 rw[if_neg (by rw[h6];simp)]
 refine DrawC.tree (.q 0 [] (.q 1 [] (.q 2 [] (.q 3 [] (.q 4 [] (.q 5 [] (.q 6 [] (.one 7 (.q 8 [] (.q 9 [] (.q 10 [] (.q 11 [] (.q 12 [] (.one 13 (.one 14 (.q 15 [] (.q 16 [] .done))))))))))))))))) [] (by kernel_rfl) ?_
 simp only[↓bD,bQ,reduceMul,reduceLeDiff,reduceEqDiff,reduceLT,reduceAdd,reduceSub,↓reduceIte,reduceCtorEq,reduceToNat,reducePow,Nat.reduceBEq,reduceDiv,bnB,BRb,BRbf,BRa,BRaf,cE,tlvV,tlsV,tlvD,n1,n2,n3,cvN1,cvN2]
 refine⟨fun _=>by omega,fun h7=> ?_,fun _=>hd 2,fun _=>by omega,fun h7=> ?_,fun _=>hd 3,fun h7=> ?_,fun h7=> ?_⟩
 ·simp only[beq_iff_eq] at h7;omega
 ·simp only[Bool.and_eq_true,beq_iff_eq] at h7;omega
 ·rw[if_pos h7]
  rcases hR:ecF 2 key with ⟨k,_|⟨p,c⟩⟩
  ·simp only[↓bD,bQ,reduceMul,reduceLeDiff,reduceEqDiff,reduceLT,reduceAdd,reduceSub,↓reduceIte,reduceCtorEq,reduceToNat,reducePow,Nat.reduceBEq,reduceDiv,hR,errO,errW,Ky.V,keyV]
   refine⟨.inr trivial,hkl,RenC.skip ?_⟩
   simp only[↓bD,bQ,reduceMul,reduceLeDiff,reduceEqDiff,reduceLT,reduceAdd,reduceSub,↓reduceIte,reduceCtorEq,reduceToNat,reducePow,Nat.reduceBEq,reduceDiv,RX,errP,errO,errW,kyR,keyW,byN,Ky.V,keyV]
  ·simp only[↓bD,bQ,reduceMul,reduceLeDiff,reduceEqDiff,reduceLT,reduceAdd,reduceSub,↓reduceIte,reduceCtorEq,reduceToNat,reducePow,Nat.reduceBEq,reduceDiv,hR,errO,errW,Ky.V,keyV]
   refine⟨.inr trivial,hkl,RenC.skip ?_⟩
   simp only[↓bD,bQ,reduceMul,reduceLeDiff,reduceEqDiff,reduceLT,reduceAdd,reduceSub,↓reduceIte,reduceCtorEq,reduceToNat,reducePow,Nat.reduceBEq,reduceDiv,RX,errP,errO,errW,kyR,keyW,byN,Ky.V,keyV]
 rw[if_neg (by rw[h7];simp)]
 refine RenC.skip ?_
 simp only[↓bD,bQ,reduceMul,reduceLeDiff,reduceEqDiff,reduceLT,reduceAdd,reduceSub,↓reduceIte,reduceCtorEq,reduceToNat,reducePow,Nat.reduceBEq,reduceDiv,RX,errP,errO,errW,kyR,keyW,byN,Ky.V,keyV,z0,algN]
theorem uintF_len (t:Tlv):(uintF t).1.length≤t.data.length:=by
 unfold uintF
 split
 ·exact leastF_le _
 ·exact Nat.zero_le _
theorem z0_ok:z0.Ok:=⟨by decide,by decide,by decide,by decide,by decide⟩
theorem rsaF_ok (b:List UInt8):(rsaF b).1.Ok:=by
 obtain⟨_,hd⟩:=parse_le b
 unfold rsaF
 split
 ·exact z0_ok
 ·split
  ·have h1:=uintF_len ((parseF b).1.getD 1 default)
   have h2:=uintF_len ((parseF b).1.getD 2 default)
   have h3:=hd 1
   have h4:=hd 2
   exact⟨Nat.zero_le _,by show(uintF _).1.length≤_;omega,by show(uintF _).1.length≤_;omega,Nat.zero_le _,Nat.zero_le _⟩
  ·exact z0_ok
theorem ecF_ok (c:Int) {b:List UInt8} (hb:b.length≤65536):(ecF c b).1.Ok:=by
 unfold ecF
 split
 ·exact z0_ok
 ·exact⟨Nat.zero_le _,Nat.zero_le _,Nat.zero_le _,by show(List.take _ _).length≤_;simp only[List.length_take,List.length_drop];omega,by show(List.drop _ _).length≤_;simp only[List.length_drop];omega⟩
theorem sreadF_ok (b:List UInt8):(sreadF b).1.Ok:=by
 obtain⟨_,hd⟩:=parse_le b
 have hk:(((parseF b).1.getD ((parseF b).1.length-1) default).data.drop 1).length≤65536:=by have:=hd ((parseF b).1.length-1);rw[List.length_drop];omega
 unfold sreadF readF' rdKey
 split
 ·exact z0_ok
 split
 ·exact z0_ok
 split
 ·exact z0_ok
 split
 ·exact⟨Nat.zero_le _,Nat.zero_le _,Nat.zero_le _,by show(List.drop _ _).length≤_;omega,Nat.zero_le _⟩
 split
 ·exact rsaF_ok _
 split
 ·exact ecF_ok 1 hk
 split
 ·exact ecF_ok 2 hk
 ·exact z0_ok
def parK (b:List UInt8):Ky×Int:=match sreadF b with
 |(k,none)=>if k.good=true then (k,0) else (z0,90)
 |(_,some p)=>(z0,if p.2=10 then 10 else if p.2=90 then 90 else 80)
theorem is_own (J:Inv) (k nx:Nat) (s:List UInt8) (c d:Int):FnH Tryz.prog J 44 [.ifc 74 (.op k 0), .val (.iface 28 (.int .i64 d))] [(k, .box 76 (.st [.str s, .val (.iface 28 (.int .i64 c))]))] nx (.bb (c==d)) [(k, .box 76 (.st [.str s, .val (.iface 28 (.int .i64 c))]))] nx:=by
 refine⟨⟨_,Tryz.func44,by kernel_rfl,by kernel_rfl⟩,fun w F vs hM hlen hvs=> ?_⟩
 obtain⟨x,y,rfl⟩: ∃x y,vs=[x,y]:=by
  match vs,hlen with
  |[x,y],_=>exact⟨x,y,rfl⟩
 obtain⟨z,rfl,hz⟩:=rep_ifc (hvs 0 _ x rfl rfl)
 obtain rfl:=rep_val (hvs 1 _ y rfl rfl)
 obtain⟨b,hO,rfl⟩:=rep_op hz
 obtain⟨b',cells,u,hO',hheap,hsz,h1,h2,_⟩:=hM.own (.r k) (.box 76 (.st [.str s, .val (.iface 28 (.int .i64 c))])) (by simp[Hget,Hroot])
 rw[hO] at hO'
 obtain rfl:b=b':=by simpa using hO'
 have h3:=(h1 1 (by simp[V.csize,V.parts])).1
 have h4:=rep_val (h2 1 (by simp[V.csize,V.parts]))
 rw[h4] at h3
 refine(is_core b 0 c d w ((cell0 hheap 1).trans h3)).mono fun e w' he=> ?_
 obtain⟨rfl,rfl⟩:=he
 exact⟨_,F,rfl,Ev.refl _ _,Cx.Le.refl _ _,fun b h _=>h,hM,fun k ob g h1 h2=> .inl ⟨k,ob,h1,h2⟩, .bb _⟩
def cIs:List V→CR
 |[.val .nilIface, .val (.iface te (.int .i64 _))]=>some ([te=28],false, .bb false)
 |[.ifc t (.pe (.sq 2 .any [.st [.str _, .val (.iface te (.int .i64 c))]]) 0 0), .val (.iface te' (.int .i64 d))]=>some ([t=74,te=28,te'=28],false, .bb (c==d))
 |_=>none
theorem cIs_ok (J:Inv):EntAt Tryz.prog J 44 (fun r=>r) cIs:=fun args l fr r hk hl=>by
 unfold cIs at hk
 split at hk
 ·obtain⟨rfl,rfl,rfl⟩:=jsome_tri hk
  obtain⟨rfl, -⟩:=hl.un
  exact isn_fn J _
 ·obtain⟨rfl,rfl,rfl⟩:=jsome_tri hk
  obtain⟨rfl,rfl,rfl, -⟩:=hl.un
  exact is_fn J _ _ _
 ·cases hk
def BSaf:FuncId→List V→CR:=fun f args=>tab [(43,cY fun b=>cF [b.length≤140737488355328] false (.tu [(sreadF b).1.V,errO (sreadF b).2])),
 (29,cK fun k=>cF [k.Ok] false (.bb k.good))] BRbf f args
def BSa (J:Inv):Sig:=⟨J,sdf,BSaf,noH,0⟩
theorem BSa_ok (J:Inv) (hJ: ∀w F,J.I w F→JV.I w F) (hE:EdT J):SigOk Tryz.prog (BSa J):= .plain (tab_ok (.c (.y fun b=> .z fun⟨c0,_⟩=>sread_fn J hJ b c0)<|
 .c (.k fun _=> .z fun⟨c0,_⟩=>good_fn J hE _ _ _ _ _ _ _ c0.s c0.n c0.e c0.x c0.y)<| .n) (BRb_ok J hJ).1)
def BSf:FuncId→List V→CR:=fun f args=>tab [(44,cIs)] BSaf f args
def BSh:FuncId→List V→List (Nat×Ob)→Nat→Option CallH:=fun f args h nx=>
 if f=44 then match args with
  |[.ifc t (.op k 0), .val (.iface te (.int .i64 d))]=>match Hroot h k with
   |some (.box ty (.st [.str s, .val (.iface te' (.int .i64 c))]))=>some ⟨[t=74,te=28,te'=28,ty=76],[],[(k, .box ty (.st [.str s, .val (.iface te' (.int .i64 c))]))], .bb (c==d),[(k, .box ty (.st [.str s, .val (.iface te' (.int .i64 c))]))],nx⟩
   |_=>none
  |_=>none
 else none
def BS (J:Inv):Sig:=⟨J,sdf,BSf,BSh,0⟩
theorem BS_ok (J:Inv) (hJ: ∀w F,J.I w F→JV.I w F) (hE:EdT J):SigOk Tryz.prog (BS J):=by
 refine⟨tab_ok (.c (cIs_ok J) .n) (BSa_ok J hJ hE).1,fun f args h nx c hc hl=> ?_⟩
 change BSh f args h nx=some c at hc
 unfold BSh at hc
 split at hc
 ·rename_i hf;subst hf
  split at hc
  ·split at hc
   ·rename_i t k te d _ ty s te' c hk
    obtain rfl:=Option.some.inj hc
    have h1:t=74:=hl _ (by simp)
    have h2:te=28:=hl _ (by simp)
    have h3:te'=28:=hl _ (by simp)
    have h4:ty=76:=hl _ (by simp)
    subst h1 h2 h3 h4
    exact is_own J k nx s c d
   ·cases hc
  ·cases hc
 ·cases hc
theorem parse0_fn (J:Inv) (hJ: ∀w F,J.I w F→JV.I w F) (hE:EdT J) (b:List UInt8) (hb:b.length≤140737488355328) (k:Ky) (p:List UInt8) (c:Int) (hR:sreadF b=(k,some (p,c))):Fn Tryz.prog J 19 false [.by b] (.tu [z0.V, .i (if c=10 then 10 else if c=90 then 90 else 80)]):=by
 refine fnK (t:=2) (ty:=26) (u:=3) (nx:=9) (by kernel_rfl) Tryz.func19 rfl (by kernel_rfl) (BS_ok J hJ hE) rfl rfl ?_
 simp only[↓bD,bQ,reduceMul,reduceLeDiff,reduceEqDiff,reduceLT,reduceAdd,reduceSub,↓reduceIte,reduceCtorEq,reduceToNat,reducePow,Nat.reduceBEq,reduceDiv,BS,BSf,cIs,BSh,BSaf,BRbf,BRaf,cK,keyW,byN,hR,errO,errW,Ky.V,keyV]
 refine⟨hb,fun h=>h.elim,fun h=> ?_,fun h=>⟨fun h2=> ?_,fun h2=> ?_⟩⟩
 ·rw[if_pos (eq_of_beq h)]
  refine RenC.skip ?_
  simp only[↓bD,bQ,reduceMul,reduceLeDiff,reduceEqDiff,reduceLT,reduceAdd,reduceSub,↓reduceIte,reduceCtorEq,reduceToNat,reducePow,Nat.reduceBEq,reduceDiv,RX,errP,errO,errW,kyR,keyW,byN,Ky.V,keyV,z0]
 ·rw[if_neg (beq_eq_false_iff_ne.1 h),if_pos (eq_of_beq h2)]
  refine RenC.skip ?_
  simp only[↓bD,bQ,reduceMul,reduceLeDiff,reduceEqDiff,reduceLT,reduceAdd,reduceSub,↓reduceIte,reduceCtorEq,reduceToNat,reducePow,Nat.reduceBEq,reduceDiv,RX,errP,errO,errW,kyR,keyW,byN,Ky.V,keyV,z0]
 ·rw[if_neg (beq_eq_false_iff_ne.1 h),if_neg (beq_eq_false_iff_ne.1 h2)]
  refine RenC.skip ?_
  simp only[↓bD,bQ,reduceMul,reduceLeDiff,reduceEqDiff,reduceLT,reduceAdd,reduceSub,↓reduceIte,reduceCtorEq,reduceToNat,reducePow,Nat.reduceBEq,reduceDiv,RX,errP,errO,errW,kyR,keyW,byN,Ky.V,keyV,z0]
theorem parse1_fn (J:Inv) (hJ: ∀w F,J.I w F→JV.I w F) (hE:EdT J) (b:List UInt8) (hb:b.length≤140737488355328) (k:Ky) (hk:k.Ok) (hR:sreadF b=(k,none)) (hg:k.good=true):Fn Tryz.prog J 19 false [.by b] (.tu [k.V, .i 0]):=by
 refine fnK (t:=2) (ty:=26) (u:=3) (nx:=9) (by kernel_rfl) Tryz.func19 rfl (by kernel_rfl) (BS_ok J hJ hE) rfl rfl ?_
 rcases k with ⟨kty,crv,s,n,e,x,y⟩
 simp only[↓bD,bQ,reduceMul,reduceLeDiff,reduceEqDiff,reduceLT,reduceAdd,reduceSub,↓reduceIte,reduceCtorEq,reduceToNat,reducePow,Nat.reduceBEq,reduceDiv,BS,BSf,cIs,BSh,BSaf,BRbf,BRaf,cK,keyW,byN,hR,errO,errW,Ky.V,keyV,hg]
 refine⟨hb,fun _=>hk,RenC.skip ?_⟩
 simp only[↓bD,bQ,reduceMul,reduceLeDiff,reduceEqDiff,reduceLT,reduceAdd,reduceSub,↓reduceIte,reduceCtorEq,reduceToNat,reducePow,Nat.reduceBEq,reduceDiv,RX,errP,errO,errW,kyR,keyW,byN,Ky.V,keyV,z0]
theorem parse2_fn (J:Inv) (hJ: ∀w F,J.I w F→JV.I w F) (hE:EdT J) (b:List UInt8) (hb:b.length≤140737488355328) (k:Ky) (hk:k.Ok) (hR:sreadF b=(k,none)) (hg:k.good=false):Fn Tryz.prog J 19 false [.by b] (.tu [z0.V, .i 90]):=by
 refine fnK (t:=2) (ty:=26) (u:=3) (nx:=9) (by kernel_rfl) Tryz.func19 rfl (by kernel_rfl) (BS_ok J hJ hE) rfl rfl ?_
 rcases k with ⟨kty,crv,s,n,e,x,y⟩
 simp only[↓bD,bQ,reduceMul,reduceLeDiff,reduceEqDiff,reduceLT,reduceAdd,reduceSub,↓reduceIte,reduceCtorEq,reduceToNat,reducePow,Nat.reduceBEq,reduceDiv,BS,BSf,cIs,BSh,BSaf,BRbf,BRaf,cK,keyW,byN,hR,errO,errW,Ky.V,keyV,hg]
 refine⟨hb,fun _=>hk,fun h=>absurd h (by decide),fun _=>RenC.skip ?_⟩
 simp only[↓bD,bQ,reduceMul,reduceLeDiff,reduceEqDiff,reduceLT,reduceAdd,reduceSub,↓reduceIte,reduceCtorEq,reduceToNat,reducePow,Nat.reduceBEq,reduceDiv,RX,errP,errO,errW,kyR,keyW,byN,Ky.V,keyV,z0]
theorem sparse_fn (J:Inv) (hJ: ∀w F,J.I w F→JV.I w F) (hE:EdT J) (b:List UInt8) (hb:b.length≤140737488355328):Fn Tryz.prog J 19 false [.by b] (.tu [(parK b).1.V, .i (parK b).2]):=by
 have hk:=sreadF_ok b
 rcases hR:sreadF b with ⟨k,_|⟨p,c⟩⟩
 ·rw[hR] at hk
  cases hg:k.good
  ·have e:parK b=(z0,90):=by unfold parK;rw[hR];exact if_neg (by rw[hg];simp)
   rw[e];exact parse2_fn J hJ hE b hb k hk hR hg
  ·have e:parK b=(k,0):=by unfold parK;rw[hR];exact if_pos hg
   rw[e];exact parse1_fn J hJ hE b hb k hk hR hg
 ·have e:parK b=(z0,if c=10 then 10 else if c=90 then 90 else 80):=by unfold parK;rw[hR]
  rw[e];exact parse0_fn J hJ hE b hb k p c hR
theorem parK_ok (b:List UInt8):(parK b).1.Ok:=by
 have hk:=sreadF_ok b
 unfold parK
 split
 ·rename_i k hR
  rw[hR] at hk
  split
  ·exact hk
  ·exact z0_ok
 ·exact z0_ok
end Go.Proofs.YtfengpdaocgcnaaGreatDoor
