/- Oid: the walk. The key of an element: numbers, points. The key of a SubjectPublicKeyInfo. Base64: what DecodeStd answers of any text. The key of a PEM text. -/
import Derived.Test.YtfengpdaocgcnaaGreatDoorQ33
import Derived.Lib.ItoaLen
import Derived.Test.YtfengpdaocgcnaaGreatDoorQ40
import Derived.Test.YtfengpdaocgcnaaGreatDoorQ39
namespace Go.Proofs.YtfengpdaocgcnaaGreatDoor
open Nat (reduceMul reduceLeDiff reduceEqDiff reduceLT reduceAdd reduceSub reduceDiv)
open Int (reduceToNat reducePow)
open Go.RowKit
set_option linter.unusedSimpArgs false
set_option maxRecDepth 100000
noncomputable def G9:Sig:=⟨JD,df,G9f,noH,0⟩
theorem G9_ok:SigOk Tryz.prog G9:=by
 refine .plain fun f args l fr r h hl=> ?_
 unfold G9f at h
 split at h
 ·rename_i hf;subst hf
  split at h
  ·obtain⟨rfl,rfl,rfl⟩:=some_tri h;exact dright_fn JD _ _ (hl _ (List.mem_cons_self ..))
  ·exact absurd h (by simp)
 ·split at h
  ·rename_i hf;subst hf
   split at h
   ·obtain⟨rfl,rfl,rfl⟩:=some_tri h;exact itoa_fn _ (hl _ (List.mem_cons_self ..))
   ·exact absurd h (by simp)
  ·split at h
   ·rename_i hf;subst hf
    split at h
    ·rename_i sz d L s
     obtain⟨rfl,rfl,rfl⟩:=some_tri h
     have h1:sz=1:=hl _ (by simp)
     have h2:d= .str []:=hl _ (by simp)
     have h3:L=strs (unS L):=hl _ (by simp)
     have h4:(unS L).length≤140737488355328:=hl _ (by simp)
     have h5:(Lib.join (unS L) s).length≤140737488355328:=hl _ (by simp)
     subst h1 h2
     have:=join_fn (unS L) s h4 h5
     rw[←h3] at this
     exact this
    ·exact absurd h (by simp)
   ·exact absurd h (by simp)
theorem oid_or (n b:Nat) (hn:n≤2147483727) (hb:b<256):bt .or .i64 (wr .i64 ((n:Int)*128)) (wr .i64 (bt .and .u8 (b:Int) 127))=((n*128+b%128:Nat):Int):=by
 have e1:wr .i64 ((n:Int)*128)=((n*128:Nat):Int):=by rw[wr_eq,IntKind.wrap_i64];omega
 have e2:=u8_and_nat b 127 (by omega) (by omega)
 have e0:b&&&127=b%128:=by rw[show(127:Nat)=2^7-1 from rfl,Nat.and_two_pow_sub_one_eq_mod]
 rw[show((127:Nat):Int)=127 from rfl] at e2
 rw[e1,bt_eq .and,e2,e0]
 rw[show wr .i64 ((b%128:Nat):Int)=((b%128:Nat):Int) from by rw[wr_eq,IntKind.wrap_i64];omega]
 rw[i64_or_nat _ _ (by omega) (by omega)]
 congr 1
 exact nat_join 7 (n*128) (b%128) (by omega) (by omega)
theorem lens_le: ∀l:List (List UInt8),(∀x∈l,x.length≤21)→Lib.lens l≤l.length*21
 |[],_=>by simp[Lib.lens]
 |x::r,h=>by
  have h1:=h x (by simp)
  have h2:=lens_le r fun z hz=>h z (List.mem_cons_of_mem _ hz)
  simp only[Lib.lens,List.map_cons,List.sum_cons,List.length_cons] at h2⊢
  omega
theorem join_len (l:List (List UInt8)) (s:List UInt8) (h: ∀x∈l,x.length≤21):(Lib.join l s).length≤s.length*l.length+l.length*21:=by
 have h2:=lens_le l h
 cases l with
 |nil=>simp[Lib.join]
 |cons x r=>
  rw[Lib.join_length]
  have:s.length*r.length≤s.length*(x::r).length:=Nat.mul_le_mul_left _ (by simp)
  omega
theorem oid_step {d:List UInt8} {i:Nat} (h:i<d.length) (out:List (List UInt8)) (n m:Nat) (hm:n*128+byteN d i%128=m):oidS (d.drop i) out n=
  if 2147483727<m then none
  else if 128≤byteN d i then oidS (d.drop (i+1)) out m
  else if out.length=0 then
   if 2147483647<m-40*min (m/40) 2 then none
   else oidS (d.drop (i+1)) [Lib.itoa (min (m/40) 2:Nat),Lib.itoa (m-40*min (m/40) 2:Nat)] 0
  else if 2147483647<m then none
  else oidS (d.drop (i+1)) (out++[Lib.itoa (m:Nat)]) 0:=by
 subst hm
 have e:byteN d i=d[i].toNat:=by rw[byteN_eq,List.getElem?_eq_getElem h];rfl
 rw[List.drop_eq_getElem_cons h,oidS,e]
theorem Oid_own (t:Tlv) (hl:t.data.length≤1000000000000):FnH Tryz.prog JD 24 [tlvV t] [] 0 (.tu [.str (oidF t).1, .bb (oidF t).2]) [] 3:=by
 refine fnJ Tryz.func24 rfl (by kernel_rfl) G9_ok rfl ?_
 unfold Tryz.f24
 simp only[bnA,reduceEqDiff,reduceLT,reduceAdd,↓reduceIte,G9,G9f,tlvV]
 obtain⟨N,hN⟩: ∃N:Nat,N=2147483727:=⟨_,rfl⟩
 have hI: ∀k,I64 k→(Lib.itoa k).length≤21:=fun k h=>Lib.itoa_length_le k h.lo h.hi
 refine⟨fun _=>by omega,fun h=> ?_,fun h=> ?_⟩
 ·have e:oidF t=([],false):=by
   unfold oidF
   rw[if_neg]
   rintro⟨h1,h2,h3⟩
   rw[h1,h2,h3] at h
   simp at h
  rw[e]
  refine .inl ?_
  simp only[bnA,reduceLeDiff,reduceEqDiff,reduceAdd,↓reduceIte]
 ·simp only[Bool.or_eq_false_iff,Bool.not_eq_false',beq_iff_eq] at h
  have e:oidF t=match oidS t.data [] 0 with
    |some l=>(Lib.join l [46],true)
    |none=>([],false):=by
   unfold oidF
   rw[if_pos ⟨h.1.1,h.1.2,by rw[←h.1.1];exact h.2⟩]
   rfl
  refine LoopC.introA (α:=Nat×List (List UInt8)×Nat×Nat) (fun y=>y.1≤t.data.length∧oidS (t.data.drop y.1) y.2.1 y.2.2.1=oidS t.data [] 0∧y.2.1.length≤2*y.1∧y.2.2.1≤N∧0<y.2.2.2∧ ∀s∈y.2.1,s.length≤21)
   (fun y=>⟨[(4, .ro (.r y.2.2.2)),(5, .i y.2.2.1),(26, .by t.data),(27, .i t.data.length),(28, .i y.1)],[(y.2.2.2, .row 9 (.sq 1 (.str []) (strs y.2.1)))],y.2.2.2+1⟩)
   (fun y=>t.data.length-y.1) (0,[],0,1) [.sl 4 9 (.sq 1 (.str []) [])] ⟨Nat.zero_le _,rfl,by simp,by simp,by simp,by simp⟩ ?_ ?_
  ·simp only[bnA,reduceLeDiff,reduceEqDiff,reduceAdd,↓reduceIte,reduceCtorEq]
   exact⟨⟨rfl,rfl⟩,rfl⟩
  ·rintro⟨i,out,n,k⟩ ⟨q1,q2,q3,q4,q5,q6⟩
   simp only at q1 q2 q3 q4 q5 q6
   simp only[bnA,reduceMul,reduceLeDiff,reduceEqDiff,reduceLT,reduceAdd,↓reduceIte,reduceCtorEq,reduceToNat,reducePow,G9f,unS_strs]
   refine⟨fun hi=> ?_,fun hi=> ?_⟩
   ·simp only[decide_eq_true_eq] at hi
    have hi:i<t.data.length:=by omega
    have hb:=byteN_lt t.data i
    rw[byteAt_N,oid_or n _ (by omega) hb]
    generalize hm:n*128+byteN t.data i%128=m
    refine⟨by omega,by omega,by omega,fun h1=> ?_,fun h1=>⟨fun h2=>⟨by constructor<;>omega,?_⟩,fun h2=>⟨fun h3=> ?_,fun h3=> ?_⟩⟩⟩
    ·have h1:2147483727<m:=by simp at h1;omega
     rw[oid_step hi out n m hm,if_pos h1] at q2
     rw[←q2] at e
     have e:oidF t=([],false):=e
     rw[e]
     refine RenC.intro [] ⟨[(2, .str []),(3, .bb false)],[],3⟩ ?_ ?_<;>simp only[bnA,reduceLeDiff,reduceEqDiff,reduceAdd,↓reduceIte]
    ·have h1: ¬2147483727<m:=by simp at h1;omega
     have h2:128≤byteN t.data i:=by simp at h2;omega
     rw[oid_step hi out n m hm,if_neg h1,if_pos h2] at q2
     refine Again.intro (i+1,out,m,k) ⟨by simp only;omega,q2,by simp only;omega,by simp only;omega,q5,q6⟩ (by simp only;omega) ?_
     simp only[bnA,reduceLeDiff,reduceEqDiff,↓reduceIte]
     simp
    ·have h1: ¬2147483727<m:=by simp at h1;omega
     have h2: ¬128≤byteN t.data i:=by simp at h2;omega
     have h3:out.length=0:=by simp at h3;simp[h3]
     rw[oid_step hi out n m hm,if_neg h1,if_neg h2,if_pos h3] at q2
     obtain rfl:out=[]:=List.eq_nil_of_length_eq_zero h3
     have ei:imin ((m:Int)/40) 2=((min (m/40) 2:Nat):Int):=by rw[imin_eq];omega
     have eb:min (m/40) 2≤2∧40*min (m/40) 2≤m:=by omega
     rw[ei]
     generalize min (m/40) 2=p at q2 eb⊢
     have es:(m:Int)-40*(p:Int)=((m-40*p:Nat):Int):=by omega
     rw[es]
     generalize hr:m-40*p=r at q2⊢
     simp only[List.nil_append,List.length_append,List.length_cons,List.length_nil]
     refine⟨by constructor<;>omega,by omega,by omega,by constructor<;>omega,by omega,by constructor<;>omega,by constructor<;>omega,fun h4=> ?_,fun h4=> ?_⟩
     ·have h4:2147483647<r:=by simp at h4;omega
      rw[if_pos h4] at q2
      rw[←q2] at e
      have e:oidF t=([],false):=e
      rw[e]
      refine RenC.intro [] ⟨[(2, .str []),(3, .bb false)],[],3⟩ ?_ ?_<;>simp only[bnA,reduceLeDiff,reduceEqDiff,reduceAdd,↓reduceIte]
     ·have h4: ¬2147483647<r:=by simp at h4;omega
      rw[if_neg h4] at q2
      refine⟨by constructor<;>omega,by omega,by constructor<;>omega,?_⟩
      refine Again.intro (i+1,[Lib.itoa p,Lib.itoa r],0,k+4) ⟨by simp only;omega,q2,by simp only[List.length_cons,List.length_nil];omega,by simp only;omega,by simp only;omega,fun s hs=> ?_⟩ (by simp only;omega) ?_
      ·simp only[List.mem_cons,List.not_mem_nil,or_false] at hs
       rcases hs with rfl|rfl
       ·exact hI _ (by constructor<;>omega)
       ·exact hI _ (by constructor<;>omega)
      ·simp only[bnA,reduceLeDiff,reduceEqDiff,reduceAdd,↓reduceIte]
       simp
    ·have h1: ¬2147483727<m:=by simp at h1;omega
     have h2: ¬128≤byteN t.data i:=by simp at h2;omega
     have h3: ¬out.length=0:=fun h=>by simp[h] at h3
     rw[oid_step hi out n m hm,if_neg h1,if_neg h2,if_neg h3] at q2
     refine⟨fun h4=> ?_,fun h4=> ?_⟩
     ·have h4:2147483647<m:=by simp at h4;omega
      rw[if_pos h4] at q2
      rw[←q2] at e
      have e:oidF t=([],false):=e
      rw[e]
      refine RenC.intro [] ⟨[(2, .str []),(3, .bb false)],[],3⟩ ?_ ?_<;>simp only[bnA,reduceLeDiff,reduceEqDiff,reduceAdd,↓reduceIte]
     ·have h4: ¬2147483647<m:=by simp at h4;omega
      rw[if_neg h4] at q2
      simp only[List.length_append,List.length_cons,List.length_nil]
      refine⟨by constructor<;>omega,by omega,by constructor<;>omega,?_⟩
      refine Again.intro (i+1,out++[Lib.itoa m],0,k+2) ⟨by simp only;omega,q2,by simp only[List.length_append,List.length_cons,List.length_nil];omega,by simp only;omega,by simp only;omega,fun s hs=> ?_⟩ (by simp only;omega) ?_
      ·simp only[List.mem_append,List.mem_singleton] at hs
       rcases hs with hs|rfl
       ·exact q6 s hs
       ·exact hI _ (by constructor<;>omega)
      ·simp only[bnA,reduceLeDiff,reduceEqDiff,reduceAdd,↓reduceIte]
       simp
   ·simp only[decide_eq_false_iff_not] at hi
    rw[List.drop_eq_nil_of_le (by omega),oidS] at q2
    rw[←q2] at e
    have e:oidF t=(Lib.join out [46],true):=e
    rw[e]
    have hj:=join_len out [46] q6
    simp only[List.length_cons,List.length_nil] at hj
    refine⟨by omega,by omega,?_⟩
    refine RenC.intro [] ⟨[(2, .str (Lib.join out [46])),(3, .bb true)],[],3⟩ ?_ ?_
    ·simp only[bnA,reduceLeDiff,reduceEqDiff,↓reduceIte]
    ·simp only[bnA,reduceLeDiff,reduceEqDiff,reduceAdd,↓reduceIte]
theorem Oid_fn (t:Tlv) (hl:t.data.length≤1000000000000):Fn Tryz.prog JD 24 false [tlvV t] (.tu [.str (oidF t).1, .bb (oidF t).2]):=
 Fn.of_plain (Oid_own t hl) (by simp[V.cl,clL])
def cE (k:Tlv→List V→CR):List V→CR
 | .st [.val (.int .i64 a), .by d, .val (.int .i64 b)]::r=>k ⟨a,d,b⟩ r
 |_=>none
theorem EntAt.e {P:Program} {J:Inv} {f:FuncId} {mk:List V→List V} {k:Tlv→List V→CR} (h: ∀x,EntAt P J f (fun r=>mk (tlvV x::r)) (k x)):EntAt P J f mk (cE k):=fun args l fr r hk hl=>by
 unfold cE at hk
 split at hk
 ·exact h ⟨_,_,_⟩ _ l fr r hk hl
 ·cases hk
def sizeC (c:Int):Int:=if c=1 then 32 else if c=2 then 48 else 0
def BRzf:FuncId→List V→CR:=fun f args=>tab [(54,cI .i64 fun c=>cF [] false (ofV c))] noF f args
def BRz (J:Inv):Sig:=⟨J,sdf,BRzf,noH,0⟩
theorem BRz_ok (J:Inv):SigOk Tryz.prog (BRz J):= .plain (tab_ok (.c (.i fun c=> .z fun _=>of_fn J c)<| .n) noF_ok)
theorem size1_fn (J:Inv):Fn Tryz.prog J 26 false [.i 1] (.i 32):=by
 refine fnI Tryz.func26 rfl (by kernel_rfl) rfl (BRz_ok J) ?_
 unfold Tryz.f26
 simp only[↓bD,bQ,reduceEqDiff,reduceLT,↓reduceIte,reduceCtorEq,BRz,BRzf,ofV,grV,pN,stepV]
 trivial
theorem size2_fn (J:Inv):Fn Tryz.prog J 26 false [.i 2] (.i 48):=by
 refine fnI Tryz.func26 rfl (by kernel_rfl) rfl (BRz_ok J) ?_
 unfold Tryz.f26
 simp only[↓bD,bQ,reduceEqDiff,reduceLT,↓reduceIte,reduceCtorEq,BRz,BRzf,ofV,grV,pN,stepV,two_one]
 trivial
theorem csize_fn (J:Inv) (c:Int) (h:c=1∨c=2):Fn Tryz.prog J 26 false [.i c] (.i (sizeC c)):=by
 rcases h with rfl|rfl
 ·exact size1_fn J
 ·exact size2_fn J
def BRaf:FuncId→List V→CR:=fun f args=>tab [(24,cE fun t=>cF [t.data.length≤65536] false (.tu [.str (oidF t).1, .bb (oidF t).2])),
 (25,cE fun t=>cF [t.data.length≤65536] false (.tu [.by (uintF t).1, .bb (uintF t).2])),
 (23,cY fun b=>cF [b.length≤140737488355328] false (.tu [tlsV (parseF b).1, .i (parseF b).2.1, .i (parseF b).2.2])),
 (74,cS fun s=>cF [] false (errW s 80)),
 (34,cI .i64 fun c=>cF [] false (.str (cvN c))),
 (26,cI .i64 fun c=>cF [c=1∨c=2] false (.i (sizeC c)))] noF f args
def BRa (J:Inv):Sig:=⟨J,sdf,BRaf,noH,0⟩
theorem BRa_ok (J:Inv) (hJ: ∀w F,J.I w F→JV.I w F):SigOk Tryz.prog (BRa J):= .plain (tab_ok (.c (.e fun t=> .z fun⟨_,_⟩=>(toJV (Oid_fn t (by omega))).weak hJ)<|
 .c (.e fun t=> .z fun⟨_,_⟩=>Uint_fn J t (by omega))<|
 .c (.y fun b=> .z fun⟨c0,_⟩=>parse_fn J b c0)<|
 .c (.s fun s=> .z fun _=>shape_fn J s)<|
 .c (.i fun c=> .z fun _=>curveName_fn J c)<|
 .c (.i fun c=> .z fun⟨c0,_⟩=>csize_fn J c c0)<| .n) noF_ok)
def isF (t:Tlv) (s:List UInt8):Bool:=(oidF t).2&&((oidF t).1==s)
theorem spis_fn (J:Inv) (hJ: ∀w F,J.I w F→JV.I w F) (t:Tlv) (s:List UInt8) (ht:t.data.length≤65536):Fn Tryz.prog J 75 false [tlvV t, .str s] (.bb (isF t s)):=by
 refine fnI Tryz.func75 rfl (by kernel_rfl) rfl (BRa_ok J hJ) ?_
 unfold Tryz.f75
 simp only[↓bD,bQ,reduceEqDiff,reduceLT,reduceAdd,↓reduceIte,reduceCtorEq,BRa,BRaf,cE,tlvV]
 exact⟨ht,rfl⟩
def z0:Ky:=⟨0,0,[],[],[],[],[]⟩
def twoN:List UInt8:=[116,119,111,32,110,117,109,98,101,114,115]
def rsaF (b:List UInt8):Ky×Option (List UInt8×Int):=
 if (parseF b).2.1≠0∨(parseF b).1.length≠3∨((parseF b).1.getD 0 default).tag≠48∨((parseF b).1.getD 0 default).kids≠2 then (z0,some (twoN,80))
 else if (uintF ((parseF b).1.getD 1 default)).2=true∧(uintF ((parseF b).1.getD 2 default)).2=true then (⟨2,0,[],(uintF ((parseF b).1.getD 1 default)).1,(uintF ((parseF b).1.getD 2 default)).1,[],[]⟩,none)
 else (z0,some (twoN,80))
def pointN:List UInt8:=[112,111,105,110,116]
def ecF (c:Int) (b:List UInt8):Ky×Option (List UInt8×Int):=
 if (b.length:Int)≠2*sizeC c+1∨byteAt b 0≠4 then (z0,some (pointN,80))
 else (⟨3,c,[],[],[],(b.drop 1).take (sizeC c).toNat,b.drop ((sizeC c).toNat+1)⟩,none)
def bytesN:List UInt8:=[98,121,116,101,115]
def elementN:List UInt8:=[101,108,101,109,101,110,116]
def bitsN:List UInt8:=[98,105,116,115]
def algN:List UInt8:=[97,108,103,111,114,105,116,104,109]
def rdBad (ts:List Tlv) (code:Int):Bool:= !(code==0)||decide ((ts.length:Int)<4)||decide (5<(ts.length:Int))|| !((ts.getD 0 default).tag==48)|| !((ts.getD 0 default).kids==2)|| !((ts.getD 1 default).tag==48)|| !((ts.getD 1 default).kids==(ts.length:Int)-3)
def rdBit (t:Tlv):Bool:= !(t.tag==3)|| !(byteAt t.data 0==0)
def rdKey (ts:List Tlv) (key:List UInt8):Ky×Option (List UInt8×Int):=
 if ((ts.length:Int)==4&&isF (ts.getD 2 default) edN&&(key.length:Int)==32)=true then (⟨4,3,[],[],[],key,[]⟩,none)
 else if ((ts.length:Int)==5&&isF (ts.getD 2 default) rsaN&&(ts.getD 3 default).tag==5)=true then rsaF key
 else if ((ts.length:Int)==5&&isF (ts.getD 2 default) ecN&&isF (ts.getD 3 default) p256N)=true then ecF 1 key
 else if ((ts.length:Int)==5&&isF (ts.getD 2 default) ecN&&isF (ts.getD 3 default) p384N)=true then ecF 2 key
 else (z0,some (algN,80))
def readF' (ts:List Tlv) (code:Int):Ky×Option (List UInt8×Int):=
 if (code==10)=true then (z0,some (bytesN,10)) else if rdBad ts code=true then (z0,some (elementN,80)) else if rdBit (ts.getD (ts.length-1) default)=true then (z0,some (bitsN,80)) else rdKey ts ((ts.getD (ts.length-1) default).data.drop 1)
def sreadF (b:List UInt8):Ky×Option (List UInt8×Int):=readF' (parseF b).1 (parseF b).2.1
theorem cvN1:cvN 1=p256N:=rfl
theorem cvN2:cvN 2=p384N:=rfl
theorem z0_ok:z0.Ok:=⟨by decide,by decide,by decide,by decide,by decide⟩
def parK (b:List UInt8):Ky×Int:=match sreadF b with
 |(k,none)=>if k.good=true then (k,0) else (z0,90)
 |(_,some p)=>(z0,if p.2=10 then 10 else if p.2=90 then 90 else 80)
def cIs:List V→CR
 |[.val .nilIface, .val (.iface te (.int .i64 _))]=>some ([te=28],false, .bb false)
 |[.ifc t (.pe (.sq 2 .any [.st [.str _, .val (.iface te (.int .i64 c))]]) 0 0), .val (.iface te' (.int .i64 d))]=>some ([t=74,te=28,te'=28],false, .bb (c==d))
 |_=>none
theorem cIs_ok (J:Inv):EntAt Tryz.prog J 44 (fun r=>r) cIs:=fun args l fr r hk hl=>by
 unfold cIs at hk
 split at hk
 ·obtain⟨rfl,rfl,rfl⟩:=jsome_tri hk
  obtain⟨rfl, -⟩:=hl.un
  exact isn_fn J _
 ·obtain⟨rfl,rfl,rfl⟩:=jsome_tri hk
  obtain⟨rfl,rfl,rfl, -⟩:=hl.un
  exact is_fn J _ _ _
 ·cases hk
def eqN (s:List UInt8):Nat:=if 0<s.length∧byteAt s (s.length-1)=61 then if 1<s.length∧byteAt s (s.length-2)=61 then 2 else 1 else 0
theorem eqN_spec (s:List UInt8):eqN s≤2∧eqN s≤s.length∧(∀i,i<eqN s→byteAt s (s.length-i-1)=61)∧(eqN s<2→eqN s<s.length→byteAt s (s.length-eqN s-1)≠61):=by
 unfold eqN
 split
 ·rename_i h
  split
  ·rename_i h2
   refine⟨Nat.le_refl _,by omega,fun i hi=> ?_,fun h=>by omega⟩
   have:i=0∨i=1:=by omega
   rcases this with rfl|rfl
   ·exact h.2
   ·rw[show s.length-1-1=s.length-2 by omega];exact h2.2
  ·rename_i h2
   refine⟨by omega,by omega,fun i hi=> ?_,fun _ h3 e=>h2 ⟨h3,?_⟩⟩
   ·obtain rfl:i=0:=by omega
    exact h.2
   ·rw[show s.length-1-1=s.length-2 by omega] at e;exact e
 ·rename_i h
  exact⟨by omega,by omega,fun i hi=>by omega,fun _ h3 e=>h ⟨h3,e⟩⟩
def firstBad:List UInt8→Nat
 |[]=>0
 |c::r=>if c∈stdS then firstBad r+1 else 0
theorem firstBad_spec: ∀l:List UInt8,firstBad l≤l.length∧(∀m,m<firstBad l→l.getD m 0∈stdS)∧(firstBad l<l.length→l.getD (firstBad l) 0∉stdS)
 |[]=>⟨Nat.le_refl _,fun m h=>absurd h (Nat.not_lt_zero _),fun h=>absurd h (Nat.lt_irrefl _)⟩
 |c::r=>by
  obtain⟨h1,h2,h3⟩:=firstBad_spec r
  unfold firstBad
  split
  ·rename_i hc
   refine⟨by simp only[List.length_cons];omega,fun m hm=> ?_,fun h=> ?_⟩
   ·cases m with
    |zero=>exact hc
    |succ m=>exact h2 m (by omega)
   ·exact h3 (by simp only[List.length_cons] at h;omega)
  ·rename_i hc
   exact⟨Nat.zero_le _,fun m hm=>absurd hm (Nat.not_lt_zero _),fun _=>hc⟩
theorem firstBad_all {l:List UInt8} (h: ∀c∈l,c∈stdS):firstBad l=l.length:=by
 obtain⟨h1,_,h3⟩:=firstBad_spec l
 rcases Nat.lt_or_ge (firstBad l) l.length with h4|h4
 ·exact absurd (h _ (by rw[List.getD_eq_getElem?_getD,List.getElem?_eq_getElem h4];exact List.getElem_mem h4)) (h3 h4)
 ·omega
def decF (s:List UInt8):List UInt8×Int×Int:=
 if firstBad (s.take (s.length-eqN s))<s.length-eqN s then ([],20,(firstBad (s.take (s.length-eqN s)):Nat))
 else if s.length%4≠0 then ([],21,s.length)
 else if (readF stdS (s.take (s.length-eqN s))).2=true then ((readF stdS (s.take (s.length-eqN s))).1,0,0)
 else ([],22,((s.length-eqN s:Nat):Int)-1)
theorem decodeStd_fn (J:Inv) (E:List UInt8) (hl:E.length≤67108000):Fn Tryz.prog J 48 false [.str E] (.tu [.by (decF E).1, .i (decF E).2.1, .i (decF E).2.2]):=by
 obtain⟨q1,q2,q3,q4⟩:=eqN_spec E
 obtain⟨p1,p2,p3⟩:=firstBad_spec (E.take (E.length-eqN E))
 have hall:E.length-eqN E≤firstBad (E.take (E.length-eqN E))→ ∀c∈E.take (E.length-eqN E),c∈stdS:=fun h c hc=>by
  obtain⟨i,hi,rfl⟩:=List.getElem_of_mem hc
  have:=p2 i (by simp only[List.length_take] at hi;omega)
  rwa [List.getD_eq_getElem?_getD,List.getElem?_eq_getElem hi] at this
 have hR:decF E=(if firstBad (E.take (E.length-eqN E))<E.length-eqN E then ([],20,((firstBad (E.take (E.length-eqN E)):Nat):Int))
  else if E.length%4≠0 then ([],21,(E.length:Int))
  else if (readF stdS (E.take (E.length-eqN E))).2=true then ((readF stdS (E.take (E.length-eqN E))).1,0,0)
  else ([],22,((E.length-eqN E:Nat):Int)-1)):=rfl
 generalize hk:eqN E=k at *
 generalize hfb:firstBad (E.take (E.length-k))=fb at *
 have htl:(E.take (E.length-k)).length=E.length-k:=by rw[List.length_take];omega
 have gu: ∀m,m<E.length-k→u8 (byteAt E m)=(E.take (E.length-k)).getD m 0:=fun m h=>by
  rw[u8_get,List.getD_eq_getElem?_getD,List.getD_eq_getElem?_getD,List.getElem?_take,if_pos h]
 have h64:stdS.length=64:=rfl
 generalize decF E=R at *
 refine fnI Tryz.func48 rfl (by kernel_rfl) rfl (SRd_ok J) ?_
 unfold Tryz.f48
 have e0:[65,66,67,68,69,70,71,72,73,74,75,76,77,78,79,80,81,82,83,84,85,86,87,88,89,90,97,98,99,100,101,102,103,104,105,106,107,108,109,110,111,112,113,114,115,116,117,118,119,120,121,122,48,49,50,51,52,53,54,55,56,57,43,47]=stdS:=rfl
 simp only[bQ,↓reduceIte,reduceCtorEq,SRd,e0]
 refine LoopC.intro (α:=Nat) (fun i=>i≤k) (fun i=>⟨[(6, .i i),(5, .i ((E.length-i:Nat):Int)),(0, .str E)],[],0⟩) (fun i=>k-i) 0 (Nat.zero_le _) ?_ ?_
 ·simp only[bQ,reduceLeDiff,reduceEqDiff,↓reduceIte,reduceCtorEq]
  rfl
 ·intro i hi
  simp only[bQ,reduceEqDiff,↓reduceIte,reduceCtorEq]
  refine⟨fun h=> ?_,fun h=> ?_,fun h=> ?_,fun h=> ?_,fun h=> ?_⟩
  ·have h:=of_decide_eq_true (Bool.and_eq_true_iff.1 h).2
   constructor<;>omega
  ·have h:=of_decide_eq_true (Bool.and_eq_true_iff.1 h).2
   omega
  ·omega
  ·rw[Bool.and_eq_true_iff,Bool.and_eq_true_iff] at h
   have h1:=of_decide_eq_true h.1.1
   have h2:=of_decide_eq_true h.1.2
   have h3:=eq_of_beq h.2
   have h4:i<k:=by
    apply Nat.lt_of_not_le
    intro h5
    obtain rfl:i=k:=by omega
    refine q4 (by omega) (by omega) ?_
    rw[←h3]
    congr 1
    omega
   refine⟨by constructor<;>omega,by constructor<;>omega,Again.intro (i+1) (by omega) (by omega) ?_⟩
   simp only[bQ,reduceLeDiff,reduceEqDiff,↓reduceIte,reduceCtorEq]
   exact⟨by omega,by omega⟩
  ·have h4:i=k:=by
    apply Nat.le_antisymm hi
    apply Nat.le_of_not_lt
    intro h5
    have e5:(((E.length-i:Nat):Int)-1).toNat=E.length-i-1:=by omega
    rw[e5,q3 i h5,Bool.and_eq_false_iff,Bool.and_eq_false_iff] at h
    rcases h with (h|h)|h
    ·exact absurd (of_decide_eq_false h) (by omega)
    ·exact absurd (of_decide_eq_false h) (by omega)
    ·cases h
   subst h4
   clear h
   refine LoopC.intro (α:=Nat) (fun j=>j≤fb) (fun j=>⟨[(30, .i j),(29, .i ((E.length-i:Nat):Int)),(5, .i ((E.length-i:Nat):Int)),(0, .str E)],[],0⟩) (fun j=>fb-j) 0 (Nat.zero_le _) ?_ ?_
   ·simp only[bQ,reduceLeDiff,reduceEqDiff,↓reduceIte,reduceCtorEq]
    rfl
   ·intro j hj
    have hcut:cutL E 0 (E.length-i)=E.take (E.length-i):=by rw[cutL_eq];simp
    simp only[↓bD,bQ,reduceLeDiff,reduceEqDiff,reduceLT,reduceAdd,↓reduceIte,reduceCtorEq,SRdf,SIxf,hcut]
    have hb:=byte_at E j
    refine⟨fun h=> ?_,fun h=> ?_⟩
    ·have h:=of_decide_eq_true h
     rw[gu j (by omega)]
     refine⟨by omega,by omega,hb.1,hb.2,fun h2=> ?_,fun h2=> ?_⟩
     ·have h2:=of_decide_eq_true h2
      obtain rfl:j=fb:=by
       apply Nat.le_antisymm hj
       apply Nat.le_of_not_lt
       intro h5
       rw[if_pos (p2 j h5)] at h2
       omega
      rw[if_pos (by omega)] at hR
      rw[hR]
      exact⟨rfl,rfl,rfl⟩
     ·have h2:=of_decide_eq_false h2
      have h5:j<fb:=by
       apply Nat.lt_of_not_le
       intro h5
       obtain rfl:j=fb:=by omega
       rw[if_neg (p3 (by omega))] at h2
       omega
      refine⟨by constructor<;>omega,Again.intro (j+1) (by omega) (by omega) ?_⟩
      simp only[bQ,reduceLeDiff,reduceEqDiff,↓reduceIte,reduceCtorEq]
      omega
    ·have h:=of_decide_eq_false h
     rw[if_neg (by omega)] at hR
     refine⟨by omega,by omega,fun h2=> ?_,fun h2=> ?_⟩
     ·have h2: ¬((E.length:Int)%4=0):=by simpa using h2
      rw[if_pos (by omega)] at hR
      rw[hR]
      exact⟨rfl,rfl,rfl⟩
     ·have h2:(E.length:Int)%4=0:=by simpa using h2
      rw[if_neg (by omega)] at hR
      refine⟨by omega,by omega,h64,hall (by omega),by omega,fun h3=> ?_,fun h3=> ?_⟩
      ·rw[if_neg (by simpa using h3)] at hR
       rw[hR]
       exact⟨by constructor<;>omega,rfl,rfl,rfl⟩
      ·rw[if_pos (by simpa using h3)] at hR
       rw[hR]
       exact⟨rfl,rfl,rfl⟩
theorem dec_enc (b:List UInt8):decF (encF stdS b)=(b,0,0):=by
 have hsl:=spell_len stdS b
 have hm:=spell_mem (S:=stdS) rfl b
 have hrd:=read_spell std_al b
 unfold encF
 generalize spellF stdS b=L at *
 have h1:L.length%4≠1:=by rw[hsl];split<;>omega
 generalize hk:(4-L.length%4)%4=k
 have hk2:k≤2:=by omega
 generalize hE:L++List.replicate k 61=E
 have hEl:E.length=L.length+k:=by rw[←hE,List.length_append,List.length_replicate]
 have g2: ∀m,L.length≤m→m<L.length+k→byteAt E m=61:=fun m h h2=>by rw[←hE];exact byteAt_r h h2
 have g3: ∀m,m<L.length→byteAt E m≠61:=fun m h e=>by
  have h1:u8 (byteAt E m)∈L:=by rw[←hE];exact byteAt_l h
  have h1:=hm _ h1
  rw[e] at h1
  exact absurd h1 (by decide)
 obtain⟨q1,q2,q3,q4⟩:=eqN_spec E
 have e1:eqN E=k:=by
  rcases Nat.lt_trichotomy (eqN E) k with h|h|h
  ·exact absurd (g2 (E.length-eqN E-1) (by omega) (by omega)) (q4 (by omega) (by omega))
  ·exact h
  ·exact absurd (q3 k h) (g3 _ (by omega))
 have e2:E.take (E.length-k)=L:=by rw[hEl,Nat.add_sub_cancel,←hE,List.take_left]
 unfold decF
 rw[e1,e2,firstBad_all hm,if_neg (by omega),if_neg (by omega),hrd,if_pos rfl]
def cutN (s:List UInt8):List UInt8×List UInt8×Bool:=if 10∈s then (s.take (s.idxOf 10),s.drop (s.idxOf 10+1),true) else (s,[],false)
theorem cut_eq (s:List UInt8):Lib.cut s [10]=cutN s:=by
 unfold Lib.cut cutN
 rw[Lib.index_one,idx_eq]
 by_cases h:(10:UInt8)∈s
 ·rw[if_pos h,if_pos h,if_pos (by omega),Int.toNat_natCast];rfl
 ·rw[if_neg h,if_neg h,if_neg (by omega)]
theorem cutN_lt {s:List UInt8} (h:s≠[]):(cutN s).2.1.length<s.length:=by
 have:=List.length_pos_iff.2 h
 unfold cutN
 split
 ·simp only[List.length_drop];omega
 ·exact this
theorem cutN_le (s:List UInt8):(cutN s).1.length+(cutN s).2.1.length≤s.length:=by
 unfold cutN
 split
 ·simp only[List.length_take,List.length_drop];omega
 ·exact Nat.le_refl _
def badL (p:List UInt8×List UInt8×Bool):Bool:= !p.2.2||p.1==[]||decide (64<(p.1.length:Int))||(decide ((p.1.length:Int)<64)&& !(p.2.1==[]))
def unP (s:List UInt8):Option (List UInt8):=if _h:s=[] then some [] else if badL (cutN s)=true then none else (unP (cutN s).2.1).map ((cutN s).1++ ·)
termination_by s.length
decreasing_by exact cutN_lt _h
theorem unP_nil:unP []=some []:=by rw[unP,dif_pos rfl]
theorem unP_ne {s:List UInt8} (h:s≠[]):unP s=if badL (cutN s)=true then none else (unP (cutN s).2.1).map ((cutN s).1++ ·):=by rw[unP,dif_neg h]
def unF (t:List UInt8):Ky×Int:=
 if (!Lib.hasPrefix t beginN|| !Lib.hasSuffix (Lib.trimPrefix t beginN) endN||Lib.trimSuffix (Lib.trimPrefix t beginN) endN==[])=true then (z0,92)
 else match unP (Lib.trimSuffix (Lib.trimPrefix t beginN) endN) with
  |none=>(z0,92)
  |some a=>if ((decF a).2.1==0)=true then parK (decF a).1 else (z0,92)
section
variable (J:Inv) (s p:List UInt8)
theorem two_st {w:World} {F:Cx} (a:List UInt8) (b:Bool):Rep w F (.tu [.str a, .bb b]) (.tuple #[.string ⟨a.toArray⟩, .bool b]):=by
 refine .tu _ _ (fun j=>if j=0 then .string ⟨a.toArray⟩ else .bool b) rfl (fun j hj=> ?_) (fun j hj=> ?_)
 ·have:j=0∨j=1:=by simp at hj;omega
  rcases this with rfl|rfl<;>rfl
 ·have:j=0∨j=1:=by simp at hj;omega
  rcases this with rfl|rfl
  ·exact .str _
  ·exact .bb _
theorem cutPrefix_fn:Fn Tryz.prog J 45 false [.str s, .str p] (.tu [.str (Lib.trimPrefix s p), .bb (Lib.hasPrefix s p)]):=by
 refine⟨⟨_,Tryz.func45,by kernel_rfl,by kernel_rfl⟩,fun w F vs hI hF hlen hvs=> ?_⟩
 obtain⟨x,y,rfl⟩: ∃x y,vs=[x,y]:=by
  match vs,hlen with
  |[x,y],_=>exact⟨x,y,rfl⟩
 obtain rfl:=rep_str (hvs 0 _ x rfl rfl)
 obtain rfl:=rep_str (hvs 1 _ y rfl rfl)
 refine(Tryz.strings_CutPrefix ⟨s.toArray⟩ ⟨p.toArray⟩ w).mono fun e w' he=> ?_
 obtain⟨rfl,rfl⟩:=he
 exact⟨_,rfl,Ext.refl _,two_st _ _⟩
theorem cutSuffix_fn (h:s.length≤1073741824):Fn Tryz.prog J 46 false [.str s, .str p] (.tu [.str (Lib.trimSuffix s p), .bb (Lib.hasSuffix s p)]):=by
 refine⟨⟨_,Tryz.func46,by kernel_rfl,by kernel_rfl⟩,fun w F vs hI hF hlen hvs=> ?_⟩
 obtain⟨x,y,rfl⟩: ∃x y,vs=[x,y]:=by
  match vs,hlen with
  |[x,y],_=>exact⟨x,y,rfl⟩
 obtain rfl:=rep_str (hvs 0 _ x rfl rfl)
 obtain rfl:=rep_str (hvs 1 _ y rfl rfl)
 refine(Tryz.strings_CutSuffix ⟨s.toArray⟩ ⟨p.toArray⟩ w (by rw[mk_size];omega)).mono fun e w' he=> ?_
 obtain⟨rfl,rfl⟩:=he
 exact⟨_,rfl,Ext.refl _,two_st _ _⟩
theorem cut10_fn (hJ: ∀w F,J.I w F→JV.I w F) (h:s.length≤1073741824):Fn Tryz.prog J 47 false [.str s, .str [10]] (.tu [.str (cutN s).1, .str (cutN s).2.1, .bb (cutN s).2.2]):=by
 refine⟨⟨_,Tryz.func47,by kernel_rfl,by kernel_rfl⟩,fun w F vs hI hF hlen hvs=> ?_⟩
 obtain⟨x,y,rfl⟩: ∃x y,vs=[x,y]:=by
  match vs,hlen with
  |[x,y],_=>exact⟨x,y,rfl⟩
 obtain rfl:=rep_str (hvs 0 _ x rfl rfl)
 obtain rfl:=rep_str (hvs 1 _ y rfl rfl)
 obtain⟨_,⟨m,hm⟩,_⟩:=hJ _ _ hI
 refine(Tryz.strings_Cut ⟨s.toArray⟩ ⟨#[10]⟩ m w (by rw[mk_size];omega) hm).mono fun e w' he=> ?_
 obtain⟨rfl,n,rfl⟩:=he
 rw[show(⟨s.toArray⟩:ByteArray).data.toList=s from rfl,show(⟨#[10]⟩:ByteArray).data.toList=[10] from rfl,cut_eq]
 refine⟨_,rfl,⟨rfl,rfl,rfl,Nat.le_refl _,fun _ _=>rfl⟩, .tu _ _ (fun j=>if j=0 then .string ⟨(cutN s).1.toArray⟩ else if j=1 then .string ⟨(cutN s).2.1.toArray⟩ else .bool (cutN s).2.2) rfl (fun j hj=> ?_) (fun j hj=> ?_)⟩
 ·have:j=0∨j=1∨j=2:=by simp at hj;omega
  rcases this with rfl|rfl|rfl<;>rfl
 ·have:j=0∨j=1∨j=2:=by simp at hj;omega
  rcases this with rfl|rfl|rfl
  ·exact .str _
  ·exact .str _
  ·exact .bb _
end
theorem trimP_len (s p:List UInt8):(Lib.trimPrefix s p).length≤s.length:=by
 unfold Lib.trimPrefix
 split
 ·rw[List.length_drop];omega
 ·exact Nat.le_refl _
def keyZ:V:= .st [.val (.int .i64 0), .val (.int .i64 0), .val (.slice none 0 0), .val (.slice none 0 0), .val (.slice none 0 0), .val (.slice none 0 0), .val (.slice none 0 0)]
end Go.Proofs.YtfengpdaocgcnaaGreatDoor
