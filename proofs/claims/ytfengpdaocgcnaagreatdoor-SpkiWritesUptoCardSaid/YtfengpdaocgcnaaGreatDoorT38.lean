/- Numbers and identifiers, there and back. Plain Lean. Oid: the walk. The key of an element: numbers, points. The key of a SubjectPublicKeyInfo. A right key comes back from its bytes. Plain Lean. -/
import Derived.Test.YtfengpdaocgcnaaGreatDoorT33
import Derived.Test.YtfengpdaocgcnaaGreatDoorT35
import Derived.Lib.ItoaLen
import Derived.Test.YtfengpdaocgcnaaGreatDoorT37
namespace Go.Proofs.YtfengpdaocgcnaaGreatDoor
set_option linter.unusedSimpArgs false
set_option maxRecDepth 100000
theorem right2 (l:List UInt8):rightF 2 l=((l.length:Int)==1||(decide (1<(l.length:Int))&& !(byteAt l 0==0&&decide (byteAt l 1<128))&& !(byteAt l 0==255&&decide (128≤byteAt l 1)))):=by
 unfold rightF;rw[if_neg (by decide),if_pos rfl]
theorem uint_of (b:List UInt8):uintF ⟨2,ofuD b,0⟩=(leastF b,true):=by
 unfold ofuD
 rcases leastF_head b with h|⟨c,r,h,hc,hl⟩
 ·rw[h];decide
 ·rw[h]
  have h0:=ne0 hc
  have hb:=c.toNat_lt
  by_cases h8:128≤c.toNat
  ·rw[if_pos (.inr (by rw[byteAt_cons];omega))]
   unfold uintF
   rw[if_pos]
   ·show(leastF (0::c::r),true)=_
    rw[leastF,if_pos rfl,hl]
   ·refine⟨rfl,rfl,?_,?_⟩
    ·show rightF 2 (0::c::r)=true
     rw[right2,byteAt_cons,byteAt_cons1]
     have: ¬(c.toNat:Int)<128:=by omega
     simp[this]
     omega
    ·show byteAt (0::c::r) 0<128
     rw[byteAt_cons];decide
  ·have hlt: ¬((c::r).length=0∨128≤byteAt (c::r) 0):=by rw[byteAt_cons];simp;omega
   rw[if_neg hlt]
   unfold uintF
   rw[if_pos]
   ·show(leastF (c::r),true)=_
    rw[hl]
   ·refine⟨rfl,rfl,?_,?_⟩
    ·show rightF 2 (c::r)=true
     rw[right2,byteAt_cons]
     have e1:((c.toNat:Int)==0)=false:=by simp;omega
     have e2:((c.toNat:Int)==255)=false:=by simp;omega
     rw[e1,e2]
     cases r<;>simp<;>omega
    ·show byteAt (c::r) 0<128
     rw[byteAt_cons];omega
theorem of_uint {t:Tlv} {n:List UInt8} (h:uintF t=(n,true)):ofuD n=t.data∧t.tag=2∧t.kids=0∧rightF 2 t.data=true∧0<t.data.length∧byteAt t.data 0<128:=by
 unfold uintF at h
 split at h
 ·rename_i hc
  obtain⟨h1,h2,h3,h4⟩:=hc
  obtain rfl:leastF t.data=n:=(Prod.mk.inj h).1
  have key: ∀d:List UInt8,rightF 2 d=true→byteAt d 0<128→ofuD (leastF d)=d∧0<d.length:=by
   intro d hr hb
   match d with
   |[]=>rw[show rightF 2 []=false from by decide] at hr;cases hr
   |[c]=>
    refine⟨?_,by simp⟩
    rw[byteAt_cons] at hb
    by_cases h0:c=0
    ·subst h0;decide
    ·have e:leastF [c]=[c]:=by rw[leastF,if_neg h0]
     rw[e];unfold ofuD;rw[e,if_neg (by rw[byteAt_cons];simp;omega)]
   |c::e::r=>
    refine⟨?_,by simp⟩
    rw[right2,byteAt_cons,byteAt_cons1] at hr
    rw[byteAt_cons] at hb
    by_cases h0:c=0
    ·subst h0
     have h8:128≤e.toNat:=by
      by_cases h8:128≤e.toNat
      ·exact h8
      ·have:(e.toNat:Int)<128:=by omega
       simp[this] at hr
       omega
     have he:e≠0:=fun h=>by subst h;simp at h8
     have l1:leastF (e::r)=e::r:=by rw[leastF,if_neg he]
     have l0:leastF (0::e::r)=e::r:=by rw[leastF,if_pos rfl,l1]
     rw[l0];unfold ofuD;rw[l1,if_pos (.inr (by rw[byteAt_cons];omega))];rfl
    ·have l1:leastF (c::e::r)=c::e::r:=by rw[leastF,if_neg h0]
     rw[l1];unfold ofuD;rw[l1,if_neg (by rw[byteAt_cons];simp;omega)]
  obtain⟨k1,k2⟩:=key t.data h3 h4
  exact⟨k1,h1,h2,h3,k2,h4⟩
 ·cases (Prod.mk.inj h).2
theorem shaped_one {t:Tlv} (h1:tagF t.tag=true) (h2:innerF t.tag=false) (h3:t.kids=0) (h4:rightF t.tag t.data=true):shapedF [t]=true:=by
 unfold shapedF stF stB
 simp[h1,h2,h3,h4]
def gr:Bool→List UInt8→Bool
 |b,[]=>b
 |b,c::r=> !(b&&decide (c.toNat=128))&&gr (decide (c.toNat<128)) r
theorem gr_groups (l:List UInt8): ∀k i,i+k=l.length→(groupsTo l i&&gr (beginsAt l i) (l.drop i))=(beginsAt l l.length&&groupsTo l l.length):=by
 intro k
 induction k with
 |zero=>
  intro i hi
  obtain rfl:i=l.length:=by omega
  rw[List.drop_length,gr,Bool.and_comm]
 |succ k ih=>
  intro i hi
  have hlt:i<l.length:=by omega
  have h:=ih (i+1) (by omega)
  rw[←h,groupsTo_succ,List.drop_eq_getElem_cons hlt,gr]
  have e:byteAt l i=(l[i].toNat:Int):=by unfold byteAt;rw[List.getD_eq_getElem?_getD,List.getElem?_eq_getElem hlt];rfl
  have e1:(byteAt l i==128)=decide (l[i].toNat=128):=by rw[Bool.eq_iff_iff,beq_iff_eq,decide_eq_true_eq,e];omega
  have e2:beginsAt l (i+1)=decide (l[i].toNat<128):=by
   show decide (byteAt l i<128)=_
   rw[e];exact decide_eq_decide.2 (by omega)
  rw[e1,e2,Bool.and_assoc]
theorem groupsF_gr (l:List UInt8):groupsF l=(decide (0<l.length)&&gr true l):=by
 have h:=gr_groups l l.length 0 (by omega)
 unfold groupsF
 rw[Bool.and_assoc,←h]
 simp[groupsTo,beginsAt]
theorem gr_hi (m:Nat): ∀r,gr true (hiF m++r)=if m=0 then gr true r else gr false r:=by
 induction m using Nat.strongRecOn with
 |_ m ih=>
  intro r
  by_cases h:m=0
  ·subst h;rw[hiF_zero];simp
  ·rw[hiF_pos h,List.append_assoc,ih (m/128) (by omega),if_neg h]
   have hu:=u8_nat (n:=128+m%128) (by omega)
   have h2: ¬(128+m%128<128):=by omega
   by_cases h0:m/128=0
   ·have h1: ¬(128+m%128=128):=by omega
    rw[if_pos h0,List.singleton_append,gr,hu]
    simp only[h1,h2,decide_false,Bool.and_false,Bool.not_false,Bool.true_and]
   ·rw[if_neg h0,List.singleton_append,gr,hu]
    simp only[h2,decide_false,Bool.false_and,Bool.not_false,Bool.true_and]
theorem gr_grp (m:Nat) (r:List UInt8):gr true (grpF m++r)=gr true r:=by
 unfold grpF
 rw[List.append_assoc,gr_hi]
 have hu:=u8_nat (n:=m%128) (by omega)
 have h2:m%128<128:=by omega
 have h1: ¬(m%128=128):=by omega
 split<;>rw[List.singleton_append,gr,hu]<;>simp only[h1,h2,decide_true,decide_false,Bool.and_false,Bool.not_false,Bool.true_and]
theorem gr_grps: ∀ms:List Nat,gr true (ms.flatMap grpF)=true
 |[]=>rfl
 |m::r=>by rw[List.flatMap_cons,gr_grp,gr_grps r]
theorem oidS_hi (m:Nat):m≤2147483727→ ∀r out,oidS (hiF m++r) out 0=oidS r out m:=by
 induction m using Nat.strongRecOn with
 |_ m ih=>
  intro hm r out
  by_cases h:m=0
  ·subst h;rw[hiF_zero];rfl
  ·rw[hiF_pos h,List.append_assoc,ih (m/128) (by omega) (by omega),List.singleton_append,oidS]
   have hu:=u8_nat (n:=128+m%128) (by omega)
   rw[hu,show m/128*128+(128+m%128)%128=m from by omega,if_neg (by omega),if_pos (by omega)]
theorem oidS_grp (m:Nat) (hm:m≤2147483727) (r:List UInt8) (out:List (List UInt8)):oidS (grpF m++r) out 0=
  if out.length=0 then if 2147483647<m-40*min (m/40) 2 then none else oidS r [Lib.itoa (min (m/40) 2:Nat),Lib.itoa (m-40*min (m/40) 2:Nat)] 0
  else if 2147483647<m then none else oidS r (out++[Lib.itoa (m:Nat)]) 0:=by
 unfold grpF
 rw[List.append_assoc,oidS_hi (m/128) (by omega),List.singleton_append,oidS]
 have hu:=u8_nat (n:=m%128) (by omega)
 rw[hu,show m/128*128+m%128%128=m from by omega,if_neg (by omega),if_neg (by omega)]
theorem oidS_all: ∀(ms:List Nat) (out:List (List UInt8)),out.length≠0→(∀m∈ms,m≤2147483647)→oidS (ms.flatMap grpF) out 0=some (out++ms.map fun m:Nat=>Lib.itoa m)
 |[],out,_,_=>by simp[oidS]
 |m::r,out,h,hm=>by
  have h1:=hm m (by simp)
  rw[List.flatMap_cons,oidS_grp m (by omega),if_neg h,if_neg (by omega),oidS_all r _ (by simp) fun x hx=>hm x (by simp[hx])]
  simp
theorem right6 (l:List UInt8):rightF 6 l=groupsF l:=by
 unfold rightF;rw[if_neg (by decide),if_neg (by decide),if_neg (by decide),if_neg (by decide),if_pos rfl]
theorem nums_map: ∀{r:List (List UInt8)},r.all numOk=true→ ∃ms:List Nat,(∀m∈ms,m≤2147483647)∧r=ms.map (fun m:Nat=>Lib.itoa m)∧(r.flatMap fun p=>grpF (numV p).toNat)=ms.flatMap grpF
 |[],_=>⟨[],by simp,rfl,rfl⟩
 |p::r,h=>by
  simp only[List.all_cons,Bool.and_eq_true] at h
  obtain⟨n,h1,h2,h3⟩:=num_of h.1
  obtain⟨ms,q1,q2,q3⟩:=nums_map h.2
  refine⟨n::ms,?_,by rw[List.map_cons,←q2,←h2],by rw[List.flatMap_cons,List.flatMap_cons,q3,h3];rfl⟩
  intro x hx
  rcases List.mem_cons.1 hx with rfl|hx
  ·exact h1
  ·exact q1 x hx
theorem oid_of {s d:List UInt8} (h:ooF (spl 46 s)=some d):oidF ⟨6,d,0⟩=(s,true)∧shapedF [⟨6,d,0⟩]=true:=by
 have hj:=join_spl 46 s
 unfold ooF at h
 split at h
 ·rename_i a b r hs
  split at h
  ·rename_i hc
   obtain⟨h1,h2,h3⟩:=hc
   simp only[List.all_cons,Bool.and_eq_true] at h1
   obtain⟨na,a1,a2,a3⟩:=num_of h1.1
   obtain⟨nb,b1,b2,b3⟩:=num_of h1.2.1
   obtain⟨ms,q1,q2,q3⟩:=nums_map h1.2.2
   obtain rfl:=Option.some.inj h
   rw[q3,a3,b3,show((40*(na:Int)+(nb:Int)).toNat)=40*na+nb from by omega]
   have hg:rightF 6 (grpF (40*na+nb)++ms.flatMap grpF)=true:=by
    rw[right6,groupsF_gr,gr_grp,gr_grps]
    have:=grpF_ne (40*na+nb)
    have:0<(grpF (40*na+nb)++ms.flatMap grpF).length:=by rw[List.length_append];omega
    rw[decide_eq_true this];rfl
   refine⟨?_,shaped_one (show tagF 6=true by decide) (show innerF 6=false by decide) rfl hg⟩
   unfold oidF
   rw[if_pos ⟨rfl,rfl,hg⟩]
   have ht:min ((40*na+nb)/40) 2=na:=by omega
   show(match oidS (grpF (40*na+nb)++ms.flatMap grpF) [] 0 with
    |some l=>(Lib.join l [46],true)
    |none=>([],false))=(s,true)
   rw[oidS_grp _ (by omega),if_pos (show([]:List (List UInt8)).length=0 from rfl),ht,show 40*na+nb-40*na=nb from by omega,if_neg (by omega),oidS_all ms _ (by simp) q1]
   simp only
   rw[←a2,←b2,←q2,List.cons_append,List.cons_append,List.nil_append,←hs,hj]
  ·cases h
 ·cases h
open Nat (reduceMul reduceLeDiff reduceEqDiff reduceLT reduceAdd reduceSub reduceDiv)
open Int (reduceToNat reducePow)
open Go.RowKit
open Nat (reduceMul reduceLeDiff reduceEqDiff reduceLT reduceAdd reduceSub reduceDiv)
open Int (reduceToNat reducePow)
open Go.RowKit
def cE (k:Tlv→List V→CR):List V→CR
 | .st [.val (.int .i64 a), .by d, .val (.int .i64 b)]::r=>k ⟨a,d,b⟩ r
 |_=>none
theorem EntAt.e {P:Program} {J:Inv} {f:FuncId} {mk:List V→List V} {k:Tlv→List V→CR} (h: ∀x,EntAt P J f (fun r=>mk (tlvV x::r)) (k x)):EntAt P J f mk (cE k):=fun args l fr r hk hl=>by
 unfold cE at hk
 split at hk
 ·exact h ⟨_,_,_⟩ _ l fr r hk hl
 ·cases hk
def sizeC (c:Int):Int:=if c=1 then 32 else if c=2 then 48 else 0
def isF (t:Tlv) (s:List UInt8):Bool:=(oidF t).2&&((oidF t).1==s)
def z0:Ky:=⟨0,0,[],[],[],[],[]⟩
def twoN:List UInt8:=[116,119,111,32,110,117,109,98,101,114,115]
def rsaF (b:List UInt8):Ky×Option (List UInt8×Int):=
 if (parseF b).2.1≠0∨(parseF b).1.length≠3∨((parseF b).1.getD 0 default).tag≠48∨((parseF b).1.getD 0 default).kids≠2 then (z0,some (twoN,80))
 else if (uintF ((parseF b).1.getD 1 default)).2=true∧(uintF ((parseF b).1.getD 2 default)).2=true then (⟨2,0,[],(uintF ((parseF b).1.getD 1 default)).1,(uintF ((parseF b).1.getD 2 default)).1,[],[]⟩,none)
 else (z0,some (twoN,80))
def pointN:List UInt8:=[112,111,105,110,116]
def ecF (c:Int) (b:List UInt8):Ky×Option (List UInt8×Int):=
 if (b.length:Int)≠2*sizeC c+1∨byteAt b 0≠4 then (z0,some (pointN,80))
 else (⟨3,c,[],[],[],(b.drop 1).take (sizeC c).toNat,b.drop ((sizeC c).toNat+1)⟩,none)
def bytesN:List UInt8:=[98,121,116,101,115]
def elementN:List UInt8:=[101,108,101,109,101,110,116]
def bitsN:List UInt8:=[98,105,116,115]
def algN:List UInt8:=[97,108,103,111,114,105,116,104,109]
def rdBad (ts:List Tlv) (code:Int):Bool:= !(code==0)||decide ((ts.length:Int)<4)||decide (5<(ts.length:Int))|| !((ts.getD 0 default).tag==48)|| !((ts.getD 0 default).kids==2)|| !((ts.getD 1 default).tag==48)|| !((ts.getD 1 default).kids==(ts.length:Int)-3)
def rdBit (t:Tlv):Bool:= !(t.tag==3)|| !(byteAt t.data 0==0)
def rdKey (ts:List Tlv) (key:List UInt8):Ky×Option (List UInt8×Int):=
 if ((ts.length:Int)==4&&isF (ts.getD 2 default) edN&&(key.length:Int)==32)=true then (⟨4,3,[],[],[],key,[]⟩,none)
 else if ((ts.length:Int)==5&&isF (ts.getD 2 default) rsaN&&(ts.getD 3 default).tag==5)=true then rsaF key
 else if ((ts.length:Int)==5&&isF (ts.getD 2 default) ecN&&isF (ts.getD 3 default) p256N)=true then ecF 1 key
 else if ((ts.length:Int)==5&&isF (ts.getD 2 default) ecN&&isF (ts.getD 3 default) p384N)=true then ecF 2 key
 else (z0,some (algN,80))
def readF' (ts:List Tlv) (code:Int):Ky×Option (List UInt8×Int):=
 if (code==10)=true then (z0,some (bytesN,10)) else if rdBad ts code=true then (z0,some (elementN,80)) else if rdBit (ts.getD (ts.length-1) default)=true then (z0,some (bitsN,80)) else rdKey ts ((ts.getD (ts.length-1) default).data.drop 1)
def sreadF (b:List UInt8):Ky×Option (List UInt8×Int):=readF' (parseF b).1 (parseF b).2.1
open Nat (reduceMul reduceLeDiff reduceEqDiff reduceLT reduceAdd reduceSub reduceDiv)
open Int (reduceToNat reducePow)
open Go.RowKit
def parK (b:List UInt8):Ky×Int:=match sreadF b with
 |(k,none)=>if k.good=true then (k,0) else (z0,90)
 |(_,some p)=>(z0,if p.2=10 then 10 else if p.2=90 then 90 else 80)
set_option exponentiation.threshold 5000
structure Prim (t:Tlv):Prop where
 tag:tagF t.tag=true
 inn:innerF t.tag=false
 kids:t.kids=0
 right:rightF t.tag t.data=true
theorem getD_of {ts:List Tlv} {x:Nat} {t:Tlv} (h:ts[x]?=some t):ts.getD x default=t∧x<ts.length:=by
 rw[List.getD_eq_getElem?_getD,h]
 exact⟨rfl,(List.getElem?_eq_some_iff.1 h).1⟩
theorem prim_at {ts:List Tlv} {x:Nat} {t:Tlv} (hx:ts[x]?=some t) (hp:Prim t) (d:Nat):stF ts d x=some (x+1)∧inF ts d x=t.data.length:=by
 obtain⟨h1,h2⟩:=getD_of hx
 have key: ∀rec,stB ts rec x=some (x+1):=fun rec=>stB_prim h2 (by unfold tagT;rw[h1];exact hp.tag) (by unfold tagT;rw[h1];exact hp.inn) (by rw[h1];exact hp.kids) (by unfold tagT datT;rw[h1];exact hp.right)
 have hd:datT ts x=t.data:=by unfold datT;rw[h1]
 have hk:kidT ts x=0:=by unfold kidT;rw[h1,hp.kids];rfl
 cases d with
 |zero=>exact⟨key _,by rw[inF,hd]⟩
 |succ d=>exact⟨key _,by rw[inF,hd,hk];rfl⟩
theorem node_at {ts:List Tlv} {x n:Nat} (hx:ts[x]?=some ⟨48,[],(n:Int)⟩) {d b:Nat} (h:stK (stF ts d) n (x+1)=some b):stF ts (d+1) x=some b∧inF ts (d+1) x=kdN (nxG (stF ts d)) (fun k=>szOf (inF ts d k)) n (x+1):=by
 obtain⟨h1,h2⟩:=getD_of hx
 have hk:kidT ts x=n:=by unfold kidT;rw[h1];exact Int.toNat_natCast n
 refine⟨?_,?_⟩
 ·rw[stF,stB_inner h2 (by unfold tagT;rw[h1];exact(by decide:tagF 48=true)) (by unfold tagT;rw[h1];exact(by decide:innerF 48=true)) (by rw[h1];exact Int.natCast_nonneg n) (by unfold datT;rw[h1]),hk,h]
 ·rw[inF,hk];unfold datT;rw[h1];exact Nat.zero_add _
theorem szOf_le {n m:Nat} (h:n≤m) (hm:m<9000000000):szOf n≤m+10:=by
 have:=lenF_len n (by omega)
 unfold szOf;omega
theorem print_ok {ts:List Tlv} (h1:stF ts 32 0=some ts.length) (h0:0<ts.length) (h2: ∀x,x<ts.length→inF ts 32 x≤60000):(printF ts).2=0:=by
 have hs:shapedF ts=true:=by unfold shapedF;rw[h1];simp[h0]
 have hb: ¬bigF ts=true:=fun e=>by
  unfold bigF at e
  rw[List.any_eq_true] at e
  obtain⟨x,hx,h3⟩:=e
  have h4:=szOf_le (h2 x (List.mem_range.1 hx)) (by omega)
  have h3:65536<szOf (inF ts 32 x):=of_decide_eq_true h3
  omega
 unfold printF
 rw[if_neg (by rw[hs];simp),if_neg hb]
theorem print_size {ts:List Tlv} (h:(printF ts).2=0):(printF ts).1.length=szOf (inF ts 32 0):=by
 have h1:shapedF ts=true:=by
  cases e:shapedF ts
  ·unfold printF at h;rw[if_pos e] at h;simp at h
  ·rfl
 have h2: ¬bigF ts=true:=fun e=>by unfold printF at h;rw[if_neg (by rw[h1];simp),if_pos e] at h;simp at h
 have e:printF ts=(fl ts (inI ts) 0 ts.length,0):=by unfold printF;rw[if_neg (by rw[h1];simp),if_neg h2]
 obtain⟨s1,s2,s3⟩:=shapedF_shp h1
 have h3:=s3.len ts.length 0 (by omega) s2
 have h4:nxI ts 0=ts.length:=by unfold nxI nxG;rw[s1];rfl
 rw[h4,Nat.sub_zero] at h3
 rw[e]
 exact h3
theorem print_3 {p q:Tlv} (hp:Prim p) (hq:Prim q) (h1:p.data.length≤3000) (h2:q.data.length≤3000):(printF [⟨48,[],2⟩,p,q]).2=0∧(printF [⟨48,[],2⟩,p,q]).1.length≤6100:=by
 have a1:=prim_at (ts:=[⟨48,[],2⟩,p,q]) (x:=1) rfl hp
 have a2:=prim_at (ts:=[⟨48,[],2⟩,p,q]) (x:=2) rfl hq
 have a0:=fun d=>node_at (ts:=[⟨48,[],2⟩,p,q]) (x:=0) (n:=2) rfl (d:=d) (b:=3) (by simp only[stK,Nat.zero_add,(a1 d).1,(a2 d).1])
 have z1:=szOf_le h1 (by omega)
 have z2:=szOf_le h2 (by omega)
 have b0:inF [⟨48,[],2⟩,p,q] 32 0≤6020:=by
  rw[(a0 31).2];simp only[kdN,nxG,Nat.zero_add,(a1 31).1,(a1 31).2,(a2 31).2,Option.getD_some];omega
 have hok:(printF [⟨48,[],2⟩,p,q]).2=0:=by
  refine print_ok (a0 31).1 (by simp) fun x hx=> ?_
  have:x=0∨x=1∨x=2:=by simp at hx;omega
  rcases this with rfl|rfl|rfl
  ·omega
  ·rw[(a1 32).2];omega
  ·rw[(a2 32).2];omega
 refine⟨hok,?_⟩
 rw[print_size hok]
 have:=szOf_le b0 (by omega)
 omega
theorem print_4 {p r:Tlv} (hp:Prim p) (hr:Prim r) (h1:p.data.length≤3000) (h3:r.data.length≤10000):(printF [⟨48,[],2⟩,⟨48,[],1⟩,p,r]).2=0:=by
 have a2:=prim_at (ts:=[⟨48,[],2⟩,⟨48,[],1⟩,p,r]) (x:=2) rfl hp
 have a3:=prim_at (ts:=[⟨48,[],2⟩,⟨48,[],1⟩,p,r]) (x:=3) rfl hr
 have a1:=fun d=>node_at (ts:=[⟨48,[],2⟩,⟨48,[],1⟩,p,r]) (x:=1) (n:=1) rfl (d:=d) (b:=3) (by simp only[stK,Nat.reduceAdd,(a2 d).1])
 have a0:=fun d=>node_at (ts:=[⟨48,[],2⟩,⟨48,[],1⟩,p,r]) (x:=0) (n:=2) rfl (d:=d+1) (b:=4) (by simp only[stK,Nat.zero_add,(a1 d).1,(a3 (d+1)).1])
 refine print_ok (a0 30).1 (by simp) fun x hx=> ?_
 have:x=0∨x=1∨x=2∨x=3:=by simp at hx;omega
 have z1:=szOf_le h1 (by omega)
 have z3:=szOf_le h3 (by omega)
 have b1: ∀d,inF [⟨48,[],2⟩,⟨48,[],1⟩,p,r] (d+1) 1≤3010:=fun d=>by
  rw[(a1 d).2];simp only[kdN,Nat.reduceAdd,(a2 d).2];omega
 rcases this with rfl|rfl|rfl|rfl
 ·have:=szOf_le (b1 30) (by omega)
  rw[(a0 30).2];simp only[kdN,nxG,Nat.zero_add,Nat.reduceAdd,(a1 30).1,(a3 31).2,Option.getD_some] at this⊢;omega
 ·exact Nat.le_trans (b1 31) (by omega)
 ·rw[(a2 32).2];omega
 ·rw[(a3 32).2];omega
theorem print_5 {p q r:Tlv} (hp:Prim p) (hq:Prim q) (hr:Prim r) (h1:p.data.length≤3000) (h2:q.data.length≤3000) (h3:r.data.length≤10000):(printF [⟨48,[],2⟩,⟨48,[],2⟩,p,q,r]).2=0:=by
 have a2:=prim_at (ts:=[⟨48,[],2⟩,⟨48,[],2⟩,p,q,r]) (x:=2) rfl hp
 have a3:=prim_at (ts:=[⟨48,[],2⟩,⟨48,[],2⟩,p,q,r]) (x:=3) rfl hq
 have a4:=prim_at (ts:=[⟨48,[],2⟩,⟨48,[],2⟩,p,q,r]) (x:=4) rfl hr
 have a1:=fun d=>node_at (ts:=[⟨48,[],2⟩,⟨48,[],2⟩,p,q,r]) (x:=1) (n:=2) rfl (d:=d) (b:=4) (by simp only[stK,Nat.reduceAdd,(a2 d).1,(a3 d).1])
 have a0:=fun d=>node_at (ts:=[⟨48,[],2⟩,⟨48,[],2⟩,p,q,r]) (x:=0) (n:=2) rfl (d:=d+1) (b:=5) (by simp only[stK,Nat.zero_add,(a1 d).1,(a4 (d+1)).1])
 refine print_ok (a0 30).1 (by simp) fun x hx=> ?_
 have:x=0∨x=1∨x=2∨x=3∨x=4:=by simp at hx;omega
 have z1:=szOf_le h1 (by omega)
 have z2:=szOf_le h2 (by omega)
 have z3:=szOf_le h3 (by omega)
 have b1: ∀d,inF [⟨48,[],2⟩,⟨48,[],2⟩,p,q,r] (d+1) 1≤6020:=fun d=>by
  rw[(a1 d).2];simp only[kdN,nxG,Nat.reduceAdd,(a2 d).1,(a2 d).2,(a3 d).2,Option.getD_some];omega
 rcases this with rfl|rfl|rfl|rfl|rfl
 ·have:=szOf_le (b1 30) (by omega)
  rw[(a0 30).2];simp only[kdN,nxG,Nat.zero_add,Nat.reduceAdd,(a1 30).1,(a4 31).2,Option.getD_some] at this⊢;omega
 ·exact Nat.le_trans (b1 31) (by omega)
 ·rw[(a2 32).2];omega
 ·rw[(a3 32).2];omega
 ·rw[(a4 32).2];omega
theorem prim_shaped {t:Tlv} (h:shapedF [t]=true) (hi:innerF t.tag=false):Prim t:=by
 obtain⟨h1,_,_⟩:=shapedF_shp h
 have h1:stB [t] (some (stF [t] 31)) 0=some 1:=h1
 obtain⟨_,h2,h3|h3⟩:=stB_cases h1
 ·exact⟨h2,hi,h3.2.1,h3.2.2.1⟩
 ·have h4:innerF t.tag=true:=h3.1
  rw[hi] at h4;cases h4
theorem oidB_some {s:List UInt8} (h:(ooF (spl 46 s)).isSome=true):ooF (spl 46 s)=some (oidB s):=by
 obtain⟨d,hd⟩:=Option.isSome_iff_exists.1 h
 unfold oidB;rw[hd];rfl
theorem prim_oid {s:List UInt8} (h:(ooF (spl 46 s)).isSome=true):Prim ⟨6,oidB s,0⟩:=prim_shaped (oid_of (oidB_some h)).2 (by exact(by decide:innerF 6=false))
theorem prim_null:Prim ⟨5,[],0⟩:=⟨by decide,by decide,rfl,by decide⟩
theorem prim_bits (key:List UInt8):Prim ⟨3,0::key,0⟩:=by
 refine⟨(by decide:tagF 3=true),(by decide:innerF 3=false),rfl,?_⟩
 show rightF 3 (0::key)=true
 unfold rightF
 rw[if_neg (by decide),if_neg (by decide),if_pos rfl,byteAt_cons]
 rcases key with _|⟨c,r⟩
 ·rfl
 ·have h1:(((0:UInt8).toNat:Nat):Int)=0:=rfl
  rw[h1,show((0:Int).toNat)=0 from rfl,Int.pow_zero,Int.emod_one]
  simp
  omega
theorem prim_uint (b:List UInt8):Prim ⟨2,ofuD b,0⟩:=⟨(by decide:tagF 2=true),(by decide:innerF 2=false),rfl,(of_uint (uint_of b)).2.2.2.1⟩
theorem isF_of {s:List UInt8} (h:(ooF (spl 46 s)).isSome=true) (s':List UInt8):isF ⟨6,oidB s,0⟩ s'=(s==s'):=by
 unfold isF
 rw[(oid_of (oidB_some h)).1]
 rfl
theorem un_nil {l:List (List UInt8)} (h:unB l=true): ∀b∈l,b=[]:=by
 have key: ∀l:List (List UInt8),(l.map List.length).sum=0→ ∀b∈l,b=[]:=by
  intro l
  induction l with
  |nil=>intro _ b hb;cases hb
  |cons a r ih=>
   intro h b hb
   rw[List.map_cons,List.sum_cons] at h
   rcases List.mem_cons.1 hb with rfl|hb
   ·exact List.length_eq_zero_iff.1 (by omega)
   ·exact ih (by omega) b hb
 unfold unB lnB at h
 exact key l (of_decide_eq_true h)
theorem nb_app1 (c:UInt8): ∀r:List UInt8,∀a:Nat,List.foldl (fun a c=>256*a+c.toNat) a r=a*256^r.length+nb r
 |[],a=>by simp[nb]
 |d::r,a=>by
  unfold nb
  rw[List.foldl_cons,List.foldl_cons,nb_app1 c r,nb_app1 c r,List.length_cons,Nat.pow_succ,Nat.mul_zero,Nat.zero_add,Nat.add_mul,Nat.mul_comm 256 a,Nat.mul_assoc,Nat.mul_comm 256]
  omega
theorem nb_lead {b:List UInt8} (h:byteAt b 0≠0) (h0:0<b.length):256^(b.length-1)≤nb b:=by
 rcases b with _|⟨c,r⟩
 ·simp at h0
 ·have hc:c.toNat≠0:=fun e=>h (by rw[byteAt_cons,e];rfl)
  have h1:=nb_app1 c r c.toNat
  have h2:nb (c::r)=List.foldl (fun a c=>256*a+c.toNat) c.toNat r:=by unfold nb;rw[List.foldl_cons,Nat.mul_zero,Nat.zero_add]
  rw[h2,h1,List.length_cons,Nat.add_sub_cancel]
  have h3:1*256^r.length≤c.toNat*256^r.length:=Nat.mul_le_mul_right _ (by omega)
  omega
theorem len_of_nb {b:List UInt8} (h:byteAt b 0≠0) {k:Nat} (hk:nb b<256^k):b.length≤k:=by
 rcases Nat.eq_zero_or_pos b.length with h0|h0
 ·omega
 ·have h1:=nb_lead h h0
  have h2:256^(b.length-1)<256^k:=by omega
  have:=(Nat.pow_lt_pow_iff_right (a:=256) (by omega)).1 h2
  omega
theorem leastF_self {b:List UInt8} (h:byteAt b 0≠0):leastF b=b:=by
 rcases b with _|⟨c,r⟩
 ·rfl
 ·rw[leastF,if_neg]
  intro e
  subst e
  exact h rfl
theorem rs_facts {n e:List UInt8} (h:rsC n e=0):leastF n=n∧leastF e=e∧n.length≤512∧e.length≤8:=by
 unfold rsC at h
 split at h
 ·cases h
 ·rename_i h1
  simp only[Bool.or_eq_true,not_or,Bool.not_eq_true] at h1
  obtain⟨hA,hB⟩:=h1
  unfold rsA at hA
  unfold rsB at hB
  simp only[Bool.or_eq_false_iff,beq_eq_false_iff_ne,decide_eq_false_iff_not,Bool.not_eq_false',decide_eq_true_eq] at hA hB
  have hn:=hA.1.1.1.2
  have he:=hA.2
  refine⟨leastF_self hn,leastF_self he,len_of_nb hn ?_,len_of_nb he ?_⟩
  ·have h2:=bl_lt (nb n)
   refine Nat.lt_of_lt_of_le h2 ?_
   rw[show(256:Nat)=2^8 from rfl,←Nat.pow_mul]
   exact Nat.pow_le_pow_right (by omega) (by omega)
  ·exact hB.1.1.1.2
theorem read_ec {c:Int} {x y:List UInt8} (hc:c=1∨c=2) (hx:(x.length:Int)=sizeC c) (hy:(y.length:Int)=sizeC c):readF' (elemF (algE c) (4::(x++y))) 0=(⟨3,c,[],[],[],x,y⟩,none):=by
 have i1:isF ⟨6,oidB ecN,0⟩ rsaN=false:=by rw[isF_of nm_ec.1];decide
 have i2:isF ⟨6,oidB ecN,0⟩ ecN=true:=by rw[isF_of nm_ec.1];decide
 have i3:ecF c (4::(x++y))=(⟨3,c,[],[],[],x,y⟩,none):=by
  unfold ecF
  rw[if_neg]
  ·have e1:(sizeC c).toNat=x.length:=by omega
   have e2:(sizeC c).toNat=y.length:=by omega
   rw[e1]
   simp
  ·simp only[List.length_cons,List.length_append,byteAt_cons]
   intro h
   rcases h with h|h
   ·omega
   ·exact h rfl
 have key:rdKey (elemF (algE c) (4::(x++y))) (4::(x++y))=(⟨3,c,[],[],[],x,y⟩,none):=by
  unfold rdKey
  have c0:((elemF (algE c) (4::(x++y))).getD 2 default)=⟨6,oidB ecN,0⟩:=rfl
  have c1:((elemF (algE c) (4::(x++y))).getD 3 default)=⟨6,oidB (cvN c),0⟩:=rfl
  have c2:(((elemF (algE c) (4::(x++y))).length:Int)==4)=false:=rfl
  have c3:(((elemF (algE c) (4::(x++y))).length:Int)==5)=true:=rfl
  rw[c0,c1,c2,c3,i1,i2,isF_of (nm_cv c).1,isF_of (nm_cv c).1]
  rcases hc with rfl|rfl
  ·rw[if_neg (by simp),if_neg (by simp),if_pos (by decide),i3]
  ·rw[if_neg (by simp),if_neg (by simp),if_neg (by decide),if_pos (by decide),i3]
 unfold readF'
 rw[if_neg (by decide),if_neg (by rw[show rdBad (elemF (algE c) (4::(x++y))) 0=false from rfl];simp)]
 have c4:(elemF (algE c) (4::(x++y))).getD ((elemF (algE c) (4::(x++y))).length-1) default=⟨3,0::4::(x++y),0⟩:=rfl
 rw[c4,if_neg (by rw[show rdBit ⟨3,0::4::(x++y),0⟩=false from rfl];simp)]
 exact key
theorem read_rsa {n e:List UInt8} (h:rsC n e=0):(printF (innL n e)).1.length≤6100∧readF' (elemF algR (printF (innL n e)).1) 0=(⟨2,0,[],n,e,[],[]⟩,none):=by
 obtain⟨h1,h2,h3,h4⟩:=rs_facts h
 obtain⟨hp,hpl⟩:(printF (innL n e)).2=0∧(printF (innL n e)).1.length≤6100:=print_3 (prim_uint n) (prim_uint e) (by have:=ofuD_len n;show(ofuD n).length≤_;omega) (by have:=ofuD_len e;show(ofuD e).length≤_;omega)
 obtain⟨hq,_⟩:=parse_print hp
 refine⟨hpl,?_⟩
 clear hpl
 generalize (printF (innL n e)).1=key at hq⊢
 have i1:isF ⟨6,oidB rsaN,0⟩ rsaN=true:=by rw[isF_of nm_rsa.1];decide
 have i3:rsaF key=(⟨2,0,[],n,e,[],[]⟩,none):=by
  unfold rsaF
  rw[hq]
  have u1:(innL n e).getD 1 default=⟨2,ofuD n,0⟩:=rfl
  have u2:(innL n e).getD 2 default=⟨2,ofuD e,0⟩:=rfl
  simp only[u1,u2,uint_of,h1,h2]
  rw[if_neg (by simp[innL]),if_pos (by simp)]
 have key2:rdKey (elemF algR key) key=(⟨2,0,[],n,e,[],[]⟩,none):=by
  unfold rdKey
  have c0:((elemF algR key).getD 2 default)=⟨6,oidB rsaN,0⟩:=rfl
  have c1:((elemF algR key).getD 3 default)=⟨5,[],0⟩:=rfl
  have c2:(((elemF algR key).length:Int)==4)=false:=rfl
  have c3:(((elemF algR key).length:Int)==5)=true:=rfl
  rw[c0,c1,c2,c3,i1,if_neg (by simp),if_pos (by decide),i3]
 unfold readF'
 rw[if_neg (by decide),if_neg (by rw[show rdBad (elemF algR key) 0=false from rfl];simp)]
 have c4:(elemF algR key).getD ((elemF algR key).length-1) default=⟨3,0::key,0⟩:=rfl
 rw[c4,if_neg (by rw[show rdBit ⟨3,0::key,0⟩=false from rfl];simp)]
 exact key2
theorem read_ed {x:List UInt8} (h:x.length=32):readF' (elemF algO x) 0=(⟨4,3,[],[],[],x,[]⟩,none):=by
 have i1:isF ⟨6,oidB edN,0⟩ edN=true:=by rw[isF_of nm_ed.1];decide
 have key2:rdKey (elemF algO x) x=(⟨4,3,[],[],[],x,[]⟩,none):=by
  unfold rdKey
  have c0:((elemF algO x).getD 2 default)=⟨6,oidB edN,0⟩:=rfl
  have c2:(((elemF algO x).length:Int)==4)=true:=rfl
  rw[c0,c2,i1,h,if_pos (by decide)]
 unfold readF'
 rw[if_neg (by decide),if_neg (by rw[show rdBad (elemF algO x) 0=false from rfl];simp)]
 have c4:(elemF algO x).getD ((elemF algO x).length-1) default=⟨3,0::x,0⟩:=rfl
 rw[c4,if_neg (by rw[show rdBit ⟨3,0::x,0⟩=false from rfl];simp)]
 exact key2
theorem back (k:Ky) (hg:k.good=true) (h1:k.kty≠1):k.pr.2=0∧parK k.pr.1=(k,0)∧parseF k.pr.1=(k.els,0,0)∧k.pr=printF k.els:=by
 have hpr:k.pr=printF k.els:=by unfold Ky.pr;rw[if_pos ⟨hg,h1⟩]
 suffices h:(printF k.els).2=0∧readF' k.els 0=(k,none) by
  obtain⟨hp,hr⟩:=h
  obtain⟨hq,_⟩:=parse_print hp
  have hs:sreadF (printF k.els).1=(k,none):=by unfold sreadF;rw[hq];exact hr
  rw[hpr]
  refine⟨hp,?_,hq,rfl⟩
  unfold parK
  rw[hs]
  exact if_pos hg
 clear hpr
 unfold Ky.good goodK at hg
 rw[if_neg h1] at hg
 rcases k with ⟨kty,crv,s,n,e,x,y⟩
 simp only at hg h1
 unfold Ky.els
 simp only
 by_cases h2:kty=2
 ·subst h2
  rw[if_pos rfl] at hg⊢
  simp only[Bool.and_eq_true,decide_eq_true_eq] at hg
  obtain⟨rfl,hu,hr⟩:=hg
  have hu:=un_nil hu
  obtain rfl:s=[]:=hu _ (by simp)
  obtain rfl:x=[]:=hu _ (by simp)
  obtain rfl:y=[]:=hu _ (by simp)
  obtain⟨q1,q2⟩:=read_rsa hr
  refine⟨print_5 (prim_oid nm_rsa.1) prim_null (prim_bits _) (by rw[nm_rsa.2];decide) (by decide) ?_,q2⟩
  show(0::(printF (innL n e)).1).length≤_
  rw[List.length_cons]
  omega
 rw[if_neg h2] at hg⊢
 by_cases h3:kty=3
 ·subst h3
  rw[if_pos rfl] at hg⊢
  simp only[Bool.and_eq_true] at hg
  obtain⟨ho,hu⟩:=hg
  have hu:=un_nil hu
  obtain rfl:s=[]:=hu _ (by simp)
  obtain rfl:n=[]:=hu _ (by simp)
  obtain rfl:e=[]:=hu _ (by simp)
  obtain⟨hc,hx,hy⟩:(crv=1∨crv=2)∧(x.length:Int)=sizeC crv∧(y.length:Int)=sizeC crv:=by
   unfold crvOk at ho
   split at ho
   ·rename_i hc;subst hc
    unfold gOk at ho
    simp only[Bool.and_eq_true,decide_eq_true_eq] at ho
    exact⟨.inl rfl,by rw[ho.1];rfl,by rw[ho.2.1];rfl⟩
   ·split at ho
    ·rename_i hc;subst hc
     unfold gOk at ho
     simp only[Bool.and_eq_true,decide_eq_true_eq] at ho
     exact⟨.inr rfl,by rw[ho.1];rfl,by rw[ho.2.1];rfl⟩
    ·cases ho
  have hs:sizeC crv≤48:=by rcases hc with rfl|rfl<;>decide
  refine⟨print_5 (prim_oid nm_ec.1) (prim_oid (nm_cv crv).1) (prim_bits _) (by rw[nm_ec.2];decide) (by have:=(nm_cv crv).2.1;show(oidB (cvN crv)).length≤_;omega) ?_,read_ec hc hx hy⟩
  show(0::4::(x++y)).length≤_
  simp only[List.length_cons,List.length_append]
  omega
 rw[if_neg h3] at hg⊢
 by_cases h4:kty=4
 ·subst h4
  rw[if_pos rfl] at hg
  simp only[Bool.and_eq_true,decide_eq_true_eq] at hg
  obtain⟨rfl,hu,ho⟩:=hg
  have hu:=un_nil hu
  obtain rfl:s=[]:=hu _ (by simp)
  obtain rfl:n=[]:=hu _ (by simp)
  obtain rfl:e=[]:=hu _ (by simp)
  obtain rfl:y=[]:=hu _ (by simp)
  have hx:x.length=32:=by
   unfold edOk at ho
   simp only[Bool.and_eq_true,decide_eq_true_eq] at ho
   exact ho.1
  refine⟨print_4 (prim_oid nm_ed.1) (prim_bits _) (by rw[nm_ed.2];decide) (by show(0::x).length≤_;simp only[List.length_cons];omega),read_ed hx⟩
 rw[if_neg h4] at hg
 cases hg
end Go.Proofs.YtfengpdaocgcnaaGreatDoor
