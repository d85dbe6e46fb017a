/- Base64: what DecodeStd answers of any text. The key of a PEM text. -/
import Derived.Test.YtfengpdaocgcnaaGreatDoorQ43
import Derived.Test.YtfengpdaocgcnaaGreatDoorS45
namespace Go.Proofs.YtfengpdaocgcnaaGreatDoor
open Nat (reduceMul reduceLeDiff reduceEqDiff reduceLT reduceAdd reduceSub reduceDiv)
open Int (reduceToNat reducePow)
open Go.RowKit
set_option linter.unusedSimpArgs false
set_option maxRecDepth 100000
def eqN (s:List UInt8):Nat:=if 0<s.length∧byteAt s (s.length-1)=61 then if 1<s.length∧byteAt s (s.length-2)=61 then 2 else 1 else 0
theorem eqN_spec (s:List UInt8):eqN s≤2∧eqN s≤s.length∧(∀i,i<eqN s→byteAt s (s.length-i-1)=61)∧(eqN s<2→eqN s<s.length→byteAt s (s.length-eqN s-1)≠61):=by
 unfold eqN
 split
 ·rename_i h
  split
  ·rename_i h2
   refine⟨Nat.le_refl _,by omega,fun i hi=> ?_,fun h=>by omega⟩
   have:i=0∨i=1:=by omega
   rcases this with rfl|rfl
   ·exact h.2
   ·rw[show s.length-1-1=s.length-2 by omega];exact h2.2
  ·rename_i h2
   refine⟨by omega,by omega,fun i hi=> ?_,fun _ h3 e=>h2 ⟨h3,?_⟩⟩
   ·obtain rfl:i=0:=by omega
    exact h.2
   ·rw[show s.length-1-1=s.length-2 by omega] at e;exact e
 ·rename_i h
  exact⟨by omega,by omega,fun i hi=>by omega,fun _ h3 e=>h ⟨h3,e⟩⟩
def firstBad:List UInt8→Nat
 |[]=>0
 |c::r=>if c∈stdS then firstBad r+1 else 0
theorem firstBad_spec: ∀l:List UInt8,firstBad l≤l.length∧(∀m,m<firstBad l→l.getD m 0∈stdS)∧(firstBad l<l.length→l.getD (firstBad l) 0∉stdS)
 |[]=>⟨Nat.le_refl _,fun m h=>absurd h (Nat.not_lt_zero _),fun h=>absurd h (Nat.lt_irrefl _)⟩
 |c::r=>by
  obtain⟨h1,h2,h3⟩:=firstBad_spec r
  unfold firstBad
  split
  ·rename_i hc
   refine⟨by simp only[List.length_cons];omega,fun m hm=> ?_,fun h=> ?_⟩
   ·cases m with
    |zero=>exact hc
    |succ m=>exact h2 m (by omega)
   ·exact h3 (by simp only[List.length_cons] at h;omega)
  ·rename_i hc
   exact⟨Nat.zero_le _,fun m hm=>absurd hm (Nat.not_lt_zero _),fun _=>hc⟩
theorem firstBad_all {l:List UInt8} (h: ∀c∈l,c∈stdS):firstBad l=l.length:=by
 obtain⟨h1,_,h3⟩:=firstBad_spec l
 rcases Nat.lt_or_ge (firstBad l) l.length with h4|h4
 ·exact absurd (h _ (by rw[List.getD_eq_getElem?_getD,List.getElem?_eq_getElem h4];exact List.getElem_mem h4)) (h3 h4)
 ·omega
def decF (s:List UInt8):List UInt8×Int×Int:=
 if firstBad (s.take (s.length-eqN s))<s.length-eqN s then ([],20,(firstBad (s.take (s.length-eqN s)):Nat))
 else if s.length%4≠0 then ([],21,s.length)
 else if (readF stdS (s.take (s.length-eqN s))).2=true then ((readF stdS (s.take (s.length-eqN s))).1,0,0)
 else ([],22,((s.length-eqN s:Nat):Int)-1)
theorem decodeStd_fn (J:Inv) (E:List UInt8) (hl:E.length≤67108000):Fn Tryz.prog J 48 false [.str E] (.tu [.by (decF E).1, .i (decF E).2.1, .i (decF E).2.2]):=by
 obtain⟨q1,q2,q3,q4⟩:=eqN_spec E
 obtain⟨p1,p2,p3⟩:=firstBad_spec (E.take (E.length-eqN E))
 have hall:E.length-eqN E≤firstBad (E.take (E.length-eqN E))→ ∀c∈E.take (E.length-eqN E),c∈stdS:=fun h c hc=>by
  obtain⟨i,hi,rfl⟩:=List.getElem_of_mem hc
  have:=p2 i (by simp only[List.length_take] at hi;omega)
  rwa [List.getD_eq_getElem?_getD,List.getElem?_eq_getElem hi] at this
 have hR:decF E=(if firstBad (E.take (E.length-eqN E))<E.length-eqN E then ([],20,((firstBad (E.take (E.length-eqN E)):Nat):Int))
  else if E.length%4≠0 then ([],21,(E.length:Int))
  else if (readF stdS (E.take (E.length-eqN E))).2=true then ((readF stdS (E.take (E.length-eqN E))).1,0,0)
  else ([],22,((E.length-eqN E:Nat):Int)-1)):=rfl
 generalize hk:eqN E=k at *
 generalize hfb:firstBad (E.take (E.length-k))=fb at *
 have htl:(E.take (E.length-k)).length=E.length-k:=by rw[List.length_take];omega
 have gu: ∀m,m<E.length-k→u8 (byteAt E m)=(E.take (E.length-k)).getD m 0:=fun m h=>by
  rw[u8_get,List.getD_eq_getElem?_getD,List.getD_eq_getElem?_getD,List.getElem?_take,if_pos h]
 have h64:stdS.length=64:=rfl
 generalize decF E=R at *
 refine fnI Tryz.func48 rfl (by kernel_rfl) rfl (SRd_ok J) ?_
 unfold Tryz.f48
 have e0:[65,66,67,68,69,70,71,72,73,74,75,76,77,78,79,80,81,82,83,84,85,86,87,88,89,90,97,98,99,100,101,102,103,104,105,106,107,108,109,110,111,112,113,114,115,116,117,118,119,120,121,122,48,49,50,51,52,53,54,55,56,57,43,47]=stdS:=rfl
 simp only[↓bD,bQ,reduceMul,reduceLeDiff,reduceEqDiff,reduceLT,reduceAdd,reduceSub,↓reduceIte,reduceCtorEq,reduceToNat,reducePow,Nat.reduceBEq,reduceDiv,SRd,SRdf,SIxf,e0]
 refine LoopC.intro (α:=Nat) (fun i=>i≤k) (fun i=>⟨[(6, .i i),(5, .i ((E.length-i:Nat):Int)),(0, .str E)],[],0⟩) (fun i=>k-i) 0 (Nat.zero_le _) ?_ ?_
 ·simp only[↓bD,bQ,reduceMul,reduceLeDiff,reduceEqDiff,reduceLT,reduceAdd,reduceSub,↓reduceIte,reduceCtorEq,reduceToNat,reducePow,Nat.reduceBEq,reduceDiv]
  rfl
 ·intro i hi
  simp only[↓bD,bQ,reduceMul,reduceLeDiff,reduceEqDiff,reduceLT,reduceAdd,reduceSub,↓reduceIte,reduceCtorEq,reduceToNat,reducePow,Nat.reduceBEq,reduceDiv,SRd,SRdf,SIxf,e0]
  refine⟨fun h=> ?_,fun h=> ?_,fun h=> ?_,fun h=> ?_,fun h=> ?_⟩
  ·have h:=of_decide_eq_true (Bool.and_eq_true_iff.1 h).2
   constructor<;>omega
  ·have h:=of_decide_eq_true (Bool.and_eq_true_iff.1 h).2
   omega
  ·omega
  ·rw[Bool.and_eq_true_iff,Bool.and_eq_true_iff] at h
   have h1:=of_decide_eq_true h.1.1
   have h2:=of_decide_eq_true h.1.2
   have h3:=eq_of_beq h.2
   have h4:i<k:=by
    apply Nat.lt_of_not_le
    intro h5
    obtain rfl:i=k:=by omega
    refine q4 (by omega) (by omega) ?_
    rw[←h3]
    congr 1
    omega
   refine⟨by constructor<;>omega,by constructor<;>omega,Again.intro (i+1) (by omega) (by omega) ?_⟩
   simp only[↓bD,bQ,reduceMul,reduceLeDiff,reduceEqDiff,reduceLT,reduceAdd,reduceSub,↓reduceIte,reduceCtorEq,reduceToNat,reducePow,Nat.reduceBEq,reduceDiv]
   exact⟨by omega,by omega⟩
  ·have h4:i=k:=by
    apply Nat.le_antisymm hi
    apply Nat.le_of_not_lt
    intro h5
    have e5:(((E.length-i:Nat):Int)-1).toNat=E.length-i-1:=by omega
    rw[e5,q3 i h5,Bool.and_eq_false_iff,Bool.and_eq_false_iff] at h
    rcases h with (h|h)|h
    ·exact absurd (of_decide_eq_false h) (by omega)
    ·exact absurd (of_decide_eq_false h) (by omega)
    ·cases h
   subst h4
   clear h
   refine LoopC.intro (α:=Nat) (fun j=>j≤fb) (fun j=>⟨[(30, .i j),(29, .i ((E.length-i:Nat):Int)),(5, .i ((E.length-i:Nat):Int)),(0, .str E)],[],0⟩) (fun j=>fb-j) 0 (Nat.zero_le _) ?_ ?_
   ·simp only[↓bD,bQ,reduceMul,reduceLeDiff,reduceEqDiff,reduceLT,reduceAdd,reduceSub,↓reduceIte,reduceCtorEq,reduceToNat,reducePow,Nat.reduceBEq,reduceDiv]
    rfl
   ·intro j hj
    have hcut:cutL E 0 (E.length-i)=E.take (E.length-i):=by rw[cutL_eq];simp
    simp only[↓bD,bQ,reduceMul,reduceLeDiff,reduceEqDiff,reduceLT,reduceAdd,reduceSub,↓reduceIte,reduceCtorEq,reduceToNat,reducePow,Nat.reduceBEq,reduceDiv,SRd,SRdf,SIxf,e0,hcut]
    have hb:=byte_at E j
    refine⟨fun h=> ?_,fun h=> ?_⟩
    ·have h:=of_decide_eq_true h
     rw[gu j (by omega)]
     refine⟨by omega,by omega,hb.1,hb.2,fun h2=> ?_,fun h2=> ?_⟩
     ·have h2:=of_decide_eq_true h2
      obtain rfl:j=fb:=by
       apply Nat.le_antisymm hj
       apply Nat.le_of_not_lt
       intro h5
       rw[if_pos (p2 j h5)] at h2
       omega
      rw[if_pos (by omega)] at hR
      rw[hR]
      exact⟨rfl,rfl,rfl⟩
     ·have h2:=of_decide_eq_false h2
      have h5:j<fb:=by
       apply Nat.lt_of_not_le
       intro h5
       obtain rfl:j=fb:=by omega
       rw[if_neg (p3 (by omega))] at h2
       omega
      refine⟨by constructor<;>omega,Again.intro (j+1) (by omega) (by omega) ?_⟩
      simp only[↓bD,bQ,reduceMul,reduceLeDiff,reduceEqDiff,reduceLT,reduceAdd,reduceSub,↓reduceIte,reduceCtorEq,reduceToNat,reducePow,Nat.reduceBEq,reduceDiv]
      omega
    ·have h:=of_decide_eq_false h
     rw[if_neg (by omega)] at hR
     refine⟨by omega,by omega,fun h2=> ?_,fun h2=> ?_⟩
     ·have h2: ¬((E.length:Int)%4=0):=by simpa using h2
      rw[if_pos (by omega)] at hR
      rw[hR]
      exact⟨rfl,rfl,rfl⟩
     ·have h2:(E.length:Int)%4=0:=by simpa using h2
      rw[if_neg (by omega)] at hR
      refine⟨by omega,by omega,h64,hall (by omega),by omega,fun h3=> ?_,fun h3=> ?_⟩
      ·rw[if_neg (by simpa using h3)] at hR
       rw[hR]
       exact⟨by constructor<;>omega,rfl,rfl,rfl⟩
      ·rw[if_pos (by simpa using h3)] at hR
       rw[hR]
       exact⟨rfl,rfl,rfl⟩
theorem dec_enc (b:List UInt8):decF (encF stdS b)=(b,0,0):=by
 have hsl:=spell_len stdS b
 have hm:=spell_mem (S:=stdS) rfl b
 have hrd:=read_spell std_al b
 unfold encF
 generalize spellF stdS b=L at *
 have h1:L.length%4≠1:=by rw[hsl];split<;>omega
 generalize hk:(4-L.length%4)%4=k
 have hk2:k≤2:=by omega
 generalize hE:L++List.replicate k 61=E
 have hEl:E.length=L.length+k:=by rw[←hE,List.length_append,List.length_replicate]
 have g2: ∀m,L.length≤m→m<L.length+k→byteAt E m=61:=fun m h h2=>by rw[←hE];exact byteAt_r h h2
 have g3: ∀m,m<L.length→byteAt E m≠61:=fun m h e=>by
  have h1:u8 (byteAt E m)∈L:=by rw[←hE];exact byteAt_l h
  have h1:=hm _ h1
  rw[e] at h1
  exact absurd h1 (by decide)
 obtain⟨q1,q2,q3,q4⟩:=eqN_spec E
 have e1:eqN E=k:=by
  rcases Nat.lt_trichotomy (eqN E) k with h|h|h
  ·exact absurd (g2 (E.length-eqN E-1) (by omega) (by omega)) (q4 (by omega) (by omega))
  ·exact h
  ·exact absurd (q3 k h) (g3 _ (by omega))
 have e2:E.take (E.length-k)=L:=by rw[hEl,Nat.add_sub_cancel,←hE,List.take_left]
 unfold decF
 rw[e1,e2,firstBad_all hm,if_neg (by omega),if_neg (by omega),hrd,if_pos rfl]
def cutN (s:List UInt8):List UInt8×List UInt8×Bool:=if 10∈s then (s.take (s.idxOf 10),s.drop (s.idxOf 10+1),true) else (s,[],false)
theorem cut_eq (s:List UInt8):Lib.cut s [10]=cutN s:=by
 unfold Lib.cut cutN
 rw[Lib.index_one,idx_eq]
 by_cases h:(10:UInt8)∈s
 ·rw[if_pos h,if_pos h,if_pos (by omega),Int.toNat_natCast];rfl
 ·rw[if_neg h,if_neg h,if_neg (by omega)]
theorem cutN_lt {s:List UInt8} (h:s≠[]):(cutN s).2.1.length<s.length:=by
 have:=List.length_pos_iff.2 h
 unfold cutN
 split
 ·simp only[List.length_drop];omega
 ·exact this
theorem cutN_le (s:List UInt8):(cutN s).1.length+(cutN s).2.1.length≤s.length:=by
 unfold cutN
 split
 ·simp only[List.length_take,List.length_drop];omega
 ·exact Nat.le_refl _
def badL (p:List UInt8×List UInt8×Bool):Bool:= !p.2.2||p.1==[]||decide (64<(p.1.length:Int))||(decide ((p.1.length:Int)<64)&& !(p.2.1==[]))
def unP (s:List UInt8):Option (List UInt8):=if _h:s=[] then some [] else if badL (cutN s)=true then none else (unP (cutN s).2.1).map ((cutN s).1++ ·)
termination_by s.length
decreasing_by exact cutN_lt _h
theorem unP_nil:unP []=some []:=by rw[unP,dif_pos rfl]
theorem unP_ne {s:List UInt8} (h:s≠[]):unP s=if badL (cutN s)=true then none else (unP (cutN s).2.1).map ((cutN s).1++ ·):=by rw[unP,dif_neg h]
def unF (t:List UInt8):Ky×Int:=
 if (!Lib.hasPrefix t beginN|| !Lib.hasSuffix (Lib.trimPrefix t beginN) endN||Lib.trimSuffix (Lib.trimPrefix t beginN) endN==[])=true then (z0,92)
 else match unP (Lib.trimSuffix (Lib.trimPrefix t beginN) endN) with
  |none=>(z0,92)
  |some a=>if ((decF a).2.1==0)=true then parK (decF a).1 else (z0,92)
section
variable (J:Inv) (s p:List UInt8)
theorem two_st {w:World} {F:Cx} (a:List UInt8) (b:Bool):Rep w F (.tu [.str a, .bb b]) (.tuple #[.string ⟨a.toArray⟩, .bool b]):=by
 refine .tu _ _ (fun j=>if j=0 then .string ⟨a.toArray⟩ else .bool b) rfl (fun j hj=> ?_) (fun j hj=> ?_)
 ·have:j=0∨j=1:=by simp at hj;omega
  rcases this with rfl|rfl<;>rfl
 ·have:j=0∨j=1:=by simp at hj;omega
  rcases this with rfl|rfl
  ·exact .str _
  ·exact .bb _
theorem cutPrefix_fn:Fn Tryz.prog J 45 false [.str s, .str p] (.tu [.str (Lib.trimPrefix s p), .bb (Lib.hasPrefix s p)]):=by
 refine⟨⟨_,Tryz.func45,by kernel_rfl,by kernel_rfl⟩,fun w F vs hI hF hlen hvs=> ?_⟩
 obtain⟨x,y,rfl⟩: ∃x y,vs=[x,y]:=by
  match vs,hlen with
  |[x,y],_=>exact⟨x,y,rfl⟩
 obtain rfl:=rep_str (hvs 0 _ x rfl rfl)
 obtain rfl:=rep_str (hvs 1 _ y rfl rfl)
 refine(Tryz.strings_CutPrefix ⟨s.toArray⟩ ⟨p.toArray⟩ w).mono fun e w' he=> ?_
 obtain⟨rfl,rfl⟩:=he
 exact⟨_,rfl,Ext.refl _,two_st _ _⟩
theorem cutSuffix_fn (h:s.length≤1073741824):Fn Tryz.prog J 46 false [.str s, .str p] (.tu [.str (Lib.trimSuffix s p), .bb (Lib.hasSuffix s p)]):=by
 refine⟨⟨_,Tryz.func46,by kernel_rfl,by kernel_rfl⟩,fun w F vs hI hF hlen hvs=> ?_⟩
 obtain⟨x,y,rfl⟩: ∃x y,vs=[x,y]:=by
  match vs,hlen with
  |[x,y],_=>exact⟨x,y,rfl⟩
 obtain rfl:=rep_str (hvs 0 _ x rfl rfl)
 obtain rfl:=rep_str (hvs 1 _ y rfl rfl)
 refine(Tryz.strings_CutSuffix ⟨s.toArray⟩ ⟨p.toArray⟩ w (by rw[mk_size];omega)).mono fun e w' he=> ?_
 obtain⟨rfl,rfl⟩:=he
 exact⟨_,rfl,Ext.refl _,two_st _ _⟩
theorem cut10_fn (hJ: ∀w F,J.I w F→JV.I w F) (h:s.length≤1073741824):Fn Tryz.prog J 47 false [.str s, .str [10]] (.tu [.str (cutN s).1, .str (cutN s).2.1, .bb (cutN s).2.2]):=by
 refine⟨⟨_,Tryz.func47,by kernel_rfl,by kernel_rfl⟩,fun w F vs hI hF hlen hvs=> ?_⟩
 obtain⟨x,y,rfl⟩: ∃x y,vs=[x,y]:=by
  match vs,hlen with
  |[x,y],_=>exact⟨x,y,rfl⟩
 obtain rfl:=rep_str (hvs 0 _ x rfl rfl)
 obtain rfl:=rep_str (hvs 1 _ y rfl rfl)
 obtain⟨_,⟨m,hm⟩,_⟩:=hJ _ _ hI
 refine(Tryz.strings_Cut ⟨s.toArray⟩ ⟨#[10]⟩ m w (by rw[mk_size];omega) hm).mono fun e w' he=> ?_
 obtain⟨rfl,n,rfl⟩:=he
 rw[show(⟨s.toArray⟩:ByteArray).data.toList=s from rfl,show(⟨#[10]⟩:ByteArray).data.toList=[10] from rfl,cut_eq]
 refine⟨_,rfl,⟨rfl,rfl,rfl,Nat.le_refl _,fun _ _=>rfl⟩, .tu _ _ (fun j=>if j=0 then .string ⟨(cutN s).1.toArray⟩ else if j=1 then .string ⟨(cutN s).2.1.toArray⟩ else .bool (cutN s).2.2) rfl (fun j hj=> ?_) (fun j hj=> ?_)⟩
 ·have:j=0∨j=1∨j=2:=by simp at hj;omega
  rcases this with rfl|rfl|rfl<;>rfl
 ·have:j=0∨j=1∨j=2:=by simp at hj;omega
  rcases this with rfl|rfl|rfl
  ·exact .str _
  ·exact .str _
  ·exact .bb _
end
def BUaf:FuncId→List V→CR:=fun f args=>tab [(45,cS fun s=>cS fun p=>cF [] false (.tu [.str (Lib.trimPrefix s p), .bb (Lib.hasPrefix s p)])),
 (46,cS fun s=>cS fun p=>cF [s.length≤1073741824] false (.tu [.str (Lib.trimSuffix s p), .bb (Lib.hasSuffix s p)])),
 (47,cS fun s=>cS fun p=>cF [p=[10],s.length≤1073741824] false (.tu [.str (cutN s).1, .str (cutN s).2.1, .bb (cutN s).2.2])),
 (48,cS fun s=>cF [s.length≤67108000] false (.tu [.by (decF s).1, .i (decF s).2.1, .i (decF s).2.2])),
 (19,cY fun b=>cF [b.length≤140737488355328] false (.tu [(parK b).1.V, .i (parK b).2]))] noF f args
def BUa (J:Inv):Sig:=⟨J,sdf,BUaf,noH,0⟩
theorem BUa_ok (J:Inv) (hJ: ∀w F,J.I w F→JV.I w F) (hE:EdT J):SigOk Tryz.prog (BUa J):= .plain (tab_ok (.c (.s fun s=> .s fun p=> .z fun _=>cutPrefix_fn J s p)<|
 .c (.s fun s=> .s fun p=> .z fun⟨c0,_⟩=>cutSuffix_fn J s p c0)<|
 .c (.s fun s=> .s fun _=> .z fun⟨c0,c1,_⟩=>(by rw[c0];exact cut10_fn J s hJ c1))<|
 .c (.s fun s=> .z fun⟨c0,_⟩=>decodeStd_fn J s c0)<|
 .c (.y fun b=> .z fun⟨c0,_⟩=>sparse_fn J hJ hE b c0)<| .n) noF_ok)
def BU (J:Inv):Sig:=⟨J,sdf,BUaf,BMh,0⟩
theorem BU_ok (J:Inv) (hJ: ∀w F,J.I w F→JV.I w F) (hE:EdT J):SigOk Tryz.prog (BU J):=⟨(BUa_ok J hJ hE).1,BMh_ok J⟩
theorem trimP_len (s p:List UInt8):(Lib.trimPrefix s p).length≤s.length:=by
 unfold Lib.trimPrefix
 split
 ·rw[List.length_drop];omega
 ·exact Nat.le_refl _
theorem trimS_len (s p:List UInt8):(Lib.trimSuffix s p).length≤s.length:=by
 unfold Lib.trimSuffix
 split
 ·rw[List.length_take];omega
 ·exact Nat.le_refl _
theorem decF_len (s:List UInt8):(decF s).1.length≤s.length:=by
 unfold decF
 split
 ·exact Nat.zero_le _
 split
 ·exact Nat.zero_le _
 split
 ·exact Nat.le_trans (read_len _ _) (by rw[List.length_take];omega)
 ·exact Nat.zero_le _
def keyZ:V:= .st [.val (.int .i64 0), .val (.int .i64 0), .val (.slice none 0 0), .val (.slice none 0 0), .val (.slice none 0 0), .val (.slice none 0 0), .val (.slice none 0 0)]
def bldH (r:Nat):List UInt8→List (Nat×Ob)
 |[]=>[(1, .box 63 (.st [.val (.pointer none), .val (.slice none 0 0)])),(0, .box 26 keyZ)]
 |c::l=>[(1, .box 63 (.st [.op 1 0, .ro (.r r)])),(r, .row 5 (.by (c::l))),(0, .box 26 keyZ)]
theorem sunpem_fn (J:Inv) (hJ: ∀w F,J.I w F→JV.I w F) (hE:EdT J) (t:List UInt8) (ht:t.length≤16777216):Fn Tryz.prog J 20 false [.str t] (.tu [(unF t).1.V, .i (unF t).2]):=by
 refine fnK (t:=2) (ty:=26) (u:=3) (nx:=1) (by kernel_rfl) Tryz.func20 rfl (by kernel_rfl) (BU_ok J hJ hE) rfl rfl ?_
 have n1:[45,45,45,45,45,66,69,71,73,78,32,80,85,66,76,73,67,32,75,69,89,45,45,45,45,45,10]=beginN:=rfl
 have n2:[45,45,45,45,45,69,78,68,32,80,85,66,76,73,67,32,75,69,89,45,45,45,45,45,10]=endN:=rfl
 have hl1:=trimP_len t beginN
 have hl2:=trimS_len (Lib.trimPrefix t beginN) endN
 generalize hR:unF t=R
 unfold unF at hR
 simp only[↓bD,bQ,reduceMul,reduceLeDiff,reduceEqDiff,reduceLT,reduceAdd,reduceSub,↓reduceIte,reduceCtorEq,reduceToNat,reducePow,Nat.reduceBEq,reduceDiv,BU,BUaf,BMh,hU.eq_1,bu0,bu1,n1,n2]
 refine⟨by omega,fun h=> ?_,fun h=> ?_⟩
 ·rw[if_pos h] at hR
  subst hR
  refine RenC.skip ?_
  simp only[↓bD,bQ,reduceMul,reduceLeDiff,reduceEqDiff,reduceLT,reduceAdd,reduceSub,↓reduceIte,reduceCtorEq,reduceToNat,reducePow,Nat.reduceBEq,reduceDiv,RX,errP,kyR,keyW,byN,Ky.V,keyV,z0]
 rw[if_neg (by rw[h];simp)] at hR
 generalize Lib.trimSuffix (Lib.trimPrefix t beginN) endN=B at *
 have hB:B≠[]:=by simp only[Bool.or_eq_false_iff,beq_eq_false_iff_ne] at h;exact h.2
 have hBl:B.length≤16777216:=by omega
 clear h
 refine LoopC.intro (α:=List UInt8×List UInt8×Nat) (fun y=>unP B=(unP y.2.1).map (y.1++ ·)∧y.1.length+y.2.1.length≤B.length∧(y.1=[]→y.2.1≠[]∧y.2.2=1)∧(y.1≠[]→2≤y.2.2)) (fun y=>⟨[(4, .str y.2.1),(7, .op 1 0),(2, .op 0 0)],bldH y.2.2 y.1,y.2.2+1⟩) (fun y=>y.2.1.length) ([],B,1) ⟨by cases unP B<;>rfl,by simp,fun _=>⟨hB,rfl⟩,fun h=>absurd rfl h⟩ ?_ ?_
 ·simp only[↓bD,bQ,reduceMul,reduceLeDiff,reduceEqDiff,reduceLT,reduceAdd,reduceSub,↓reduceIte,reduceCtorEq,reduceToNat,reducePow,Nat.reduceBEq,reduceDiv,bldH,keyZ]
  skip
 ·rintro⟨acc,rest,r⟩ ⟨h1,h2,h3,h4⟩
  simp only at h1 h2 h3 h4
  by_cases hr:rest=[]
  ·subst hr
   rcases acc with _|⟨c,l⟩
   ·exact absurd rfl (h3 rfl).1
   have h5:=h4 (by simp)
   have r1:(r=1)=False:=eq_false (by omega)
   have r2:(1=r)=False:=eq_false (by omega)
   have r3:(r=0)=False:=eq_false (by omega)
   have r4:(0=r)=False:=eq_false (by omega)
   rw[unP_nil] at h1
   rw[h1] at hR
   simp only[Option.map_some,List.append_nil] at hR
   have hdl:=decF_len (c::l)
   simp only[List.length_cons,List.length_nil] at h2 hdl
   simp only[↓bD,bQ,reduceMul,reduceLeDiff,reduceEqDiff,reduceLT,reduceAdd,reduceSub,↓reduceIte,reduceCtorEq,reduceToNat,reducePow,Nat.reduceBEq,reduceDiv,BU,BUaf,BMh,hU.eq_1,bu0,bu1,n1,n2,bldH,keyZ,r1,r2,r3,r4,Ky.V,keyV]
   refine⟨by omega,fun h=> ?_,fun h=>⟨by omega,?_⟩⟩
   ·rw[if_neg (by simpa using h)] at hR
    subst hR
    refine RenC.intro [(0,0)] ⟨[(2, .op 0 0),(3, .i 92)],[(0, .box 26 keyZ)],1⟩ ?_ ?_
    ·simp only[↓bD,bQ,reduceMul,reduceLeDiff,reduceEqDiff,reduceLT,reduceAdd,reduceSub,↓reduceIte,reduceCtorEq,reduceToNat,reducePow,Nat.reduceBEq,reduceDiv,keyZ]
    ·simp only[↓bD,bQ,reduceMul,reduceLeDiff,reduceEqDiff,reduceLT,reduceAdd,reduceSub,↓reduceIte,reduceCtorEq,reduceToNat,reducePow,Nat.reduceBEq,reduceDiv,RX,errP,kyR,keyW,byN,Ky.V,keyV,z0,keyZ]
   ·rw[if_pos (by simpa using h)] at hR
    subst hR
    refine RenC.intro [(0,0)] ⟨[(2, .op 0 0),(3, .i (parK (decF (c::l)).1).2)],[(0, .box 26 (parK (decF (c::l)).1).1.V)],1⟩ ?_ ?_
    ·simp only[↓bD,bQ,reduceMul,reduceLeDiff,reduceEqDiff,reduceLT,reduceAdd,reduceSub,↓reduceIte,reduceCtorEq,reduceToNat,reducePow,Nat.reduceBEq,reduceDiv,Ky.V,keyV]
    ·simp only[↓bD,bQ,reduceMul,reduceLeDiff,reduceEqDiff,reduceLT,reduceAdd,reduceSub,↓reduceIte,reduceCtorEq,reduceToNat,reducePow,Nat.reduceBEq,reduceDiv,RX,errP,kyR,keyW,byN,Ky.V,keyV]
  ·have e1:(rest==[])=false:=beq_eq_false_iff_ne.2 hr
   have hlt:=cutN_lt hr
   have hle:=cutN_le rest
   rw[unP_ne hr] at h1
   generalize hcut:cutN rest=q at *
   obtain⟨line,rst,en⟩:=q
   simp only at hlt hle h1
   rcases acc with _|⟨c,l⟩
   ·obtain rfl:r=1:=(h3 rfl).2
    simp only[↓bD,bQ,reduceMul,reduceLeDiff,reduceEqDiff,reduceLT,reduceAdd,reduceSub,↓reduceIte,reduceCtorEq,reduceToNat,reducePow,Nat.reduceBEq,reduceDiv,BU,BUaf,BMh,hU.eq_1,bu0,bu1,n1,n2,bldH,keyZ,e1,hcut]
    refine⟨by omega,fun h hh=>by rw[h,decide_eq_true hh];rfl,fun h=> ?_,fun h=> ?_⟩
    ·rw[if_pos (show badL (line,rst,en)=true from h)] at h1
     rw[h1] at hR
     simp only[Option.map_none] at hR
     subst hR
     refine RenC.intro [(0,0)] ⟨[(2, .op 0 0),(3, .i 92)],[(0, .box 26 keyZ)],1⟩ ?_ ?_
     ·simp only[↓bD,bQ,reduceMul,reduceLeDiff,reduceEqDiff,reduceLT,reduceAdd,reduceSub,↓reduceIte,reduceCtorEq,reduceToNat,reducePow,Nat.reduceBEq,reduceDiv,keyZ]
     ·simp only[↓bD,bQ,reduceMul,reduceLeDiff,reduceEqDiff,reduceLT,reduceAdd,reduceSub,↓reduceIte,reduceCtorEq,reduceToNat,reducePow,Nat.reduceBEq,reduceDiv,RX,errP,kyR,keyW,byN,Ky.V,keyV,z0,keyZ]
    ·rw[if_neg (by rw[show badL (line,rst,en)=false from h];simp)] at h1
     simp only[Bool.or_eq_false_iff,beq_eq_false_iff_ne] at h
     obtain⟨c',l',rfl⟩: ∃c' l',line=c'::l':=by
      rcases line with _|⟨c',l'⟩
      ·exact absurd rfl h.1.1.2
      ·exact⟨_,_,rfl⟩
     refine⟨by omega,Again.intro (c'::l',rst,2) ⟨?_,?_,fun h=>absurd h (by simp),fun _=>Nat.le_refl _⟩ hlt ?_⟩
     ·show unP B=(unP rst).map (c'::l'++ ·)
      rw[h1]
      cases unP rst<;>rfl
     ·show(c'::l').length+rst.length≤B.length
      simp only[List.length_nil] at h2
      omega
     ·simp only[↓bD,bQ,reduceMul,reduceLeDiff,reduceEqDiff,reduceLT,reduceAdd,reduceSub,↓reduceIte,reduceCtorEq,reduceToNat,reducePow,Nat.reduceBEq,reduceDiv,bldH,keyZ]
   ·have h5:=h4 (by simp)
    have r1:(r=1)=False:=eq_false (by omega)
    have r2:(1=r)=False:=eq_false (by omega)
    have r3:(r=0)=False:=eq_false (by omega)
    have r4:(0=r)=False:=eq_false (by omega)
    have r5:(r+1=1)=False:=eq_false (by omega)
    have r6:(1=r+1)=False:=eq_false (by omega)
    simp only[↓bD,bQ,reduceMul,reduceLeDiff,reduceEqDiff,reduceLT,reduceAdd,reduceSub,↓reduceIte,reduceCtorEq,reduceToNat,reducePow,Nat.reduceBEq,reduceDiv,BU,BUaf,BMh,hU.eq_1,bu0,bu1,n1,n2,bldH,keyZ,e1,r1,r2,r3,r4,r5,r6,hcut]
    refine⟨by omega,fun h hh=>by rw[h,decide_eq_true hh];rfl,fun h=> ?_,fun h=> ?_⟩
    ·rw[if_pos (show badL (line,rst,en)=true from h)] at h1
     rw[h1] at hR
     simp only[Option.map_none] at hR
     subst hR
     refine RenC.intro [(0,0)] ⟨[(2, .op 0 0),(3, .i 92)],[(0, .box 26 keyZ)],1⟩ ?_ ?_
     ·simp only[↓bD,bQ,reduceMul,reduceLeDiff,reduceEqDiff,reduceLT,reduceAdd,reduceSub,↓reduceIte,reduceCtorEq,reduceToNat,reducePow,Nat.reduceBEq,reduceDiv,keyZ]
     ·simp only[↓bD,bQ,reduceMul,reduceLeDiff,reduceEqDiff,reduceLT,reduceAdd,reduceSub,↓reduceIte,reduceCtorEq,reduceToNat,reducePow,Nat.reduceBEq,reduceDiv,RX,errP,kyR,keyW,byN,Ky.V,keyV,z0,keyZ]
    ·rw[if_neg (by rw[show badL (line,rst,en)=false from h];simp)] at h1
     simp only[Bool.or_eq_false_iff,beq_eq_false_iff_ne] at h
     obtain⟨c',l',rfl⟩: ∃c' l',line=c'::l':=by
      rcases line with _|⟨c',l'⟩
      ·exact absurd rfl h.1.1.2
      ·exact⟨_,_,rfl⟩
     refine⟨by omega,by omega,by simp only[List.length_cons] at *;omega,Again.intro (c::(l++c'::l'),rst,r+1) ⟨?_,?_,fun h=>absurd h (by simp),fun _=>by show 2≤r+1;omega⟩ hlt ?_⟩
     ·show unP B=(unP rst).map (c::(l++c'::l')++ ·)
      rw[h1]
      cases unP rst<;>simp
     ·show(c::(l++c'::l')).length+rst.length≤B.length
      simp only[List.length_cons,List.length_append] at *
      omega
     ·simp only[↓bD,bQ,reduceMul,reduceLeDiff,reduceEqDiff,reduceLT,reduceAdd,reduceSub,↓reduceIte,reduceCtorEq,reduceToNat,reducePow,Nat.reduceBEq,reduceDiv,bldH,keyZ,r1,r2,r3,r4,r5,r6]
      exact Nat.le_refl _
end Go.Proofs.YtfengpdaocgcnaaGreatDoor
