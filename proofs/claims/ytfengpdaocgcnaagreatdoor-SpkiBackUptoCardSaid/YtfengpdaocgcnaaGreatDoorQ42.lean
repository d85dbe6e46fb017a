/- A right key comes back from its bytes. Plain Lean. A PEM text is read as it was written. Plain Lean. Parse's answers as memory of one's own: RSA. -/
import Derived.Test.YtfengpdaocgcnaaGreatDoorQ41
import Derived.Test.YtfengpdaocgcnaaGreatDoorQ34
namespace Go.Proofs.YtfengpdaocgcnaaGreatDoor
set_option linter.unusedSimpArgs false
set_option maxRecDepth 100000
set_option exponentiation.threshold 5000
structure Prim (t:Tlv):Prop where
 tag:tagF t.tag=true
 inn:innerF t.tag=false
 kids:t.kids=0
 right:rightF t.tag t.data=true
theorem getD_of {ts:List Tlv} {x:Nat} {t:Tlv} (h:ts[x]?=some t):ts.getD x default=t∧x<ts.length:=by
 rw[List.getD_eq_getElem?_getD,h]
 exact⟨rfl,(List.getElem?_eq_some_iff.1 h).1⟩
theorem prim_at {ts:List Tlv} {x:Nat} {t:Tlv} (hx:ts[x]?=some t) (hp:Prim t) (d:Nat):stF ts d x=some (x+1)∧inF ts d x=t.data.length:=by
 obtain⟨h1,h2⟩:=getD_of hx
 have key: ∀rec,stB ts rec x=some (x+1):=fun rec=>stB_prim h2 (by unfold tagT;rw[h1];exact hp.tag) (by unfold tagT;rw[h1];exact hp.inn) (by rw[h1];exact hp.kids) (by unfold tagT datT;rw[h1];exact hp.right)
 have hd:datT ts x=t.data:=by unfold datT;rw[h1]
 have hk:kidT ts x=0:=by unfold kidT;rw[h1,hp.kids];rfl
 cases d with
 |zero=>exact⟨key _,by rw[inF,hd]⟩
 |succ d=>exact⟨key _,by rw[inF,hd,hk];rfl⟩
theorem node_at {ts:List Tlv} {x n:Nat} (hx:ts[x]?=some ⟨48,[],(n:Int)⟩) {d b:Nat} (h:stK (stF ts d) n (x+1)=some b):stF ts (d+1) x=some b∧inF ts (d+1) x=kdN (nxG (stF ts d)) (fun k=>szOf (inF ts d k)) n (x+1):=by
 obtain⟨h1,h2⟩:=getD_of hx
 have hk:kidT ts x=n:=by unfold kidT;rw[h1];exact Int.toNat_natCast n
 refine⟨?_,?_⟩
 ·rw[stF,stB_inner h2 (by unfold tagT;rw[h1];exact(by decide:tagF 48=true)) (by unfold tagT;rw[h1];exact(by decide:innerF 48=true)) (by rw[h1];exact Int.natCast_nonneg n) (by unfold datT;rw[h1]),hk,h]
 ·rw[inF,hk];unfold datT;rw[h1];exact Nat.zero_add _
theorem szOf_le {n m:Nat} (h:n≤m) (hm:m<9000000000):szOf n≤m+10:=by
 have:=lenF_len n (by omega)
 unfold szOf;omega
theorem print_ok {ts:List Tlv} (h1:stF ts 32 0=some ts.length) (h0:0<ts.length) (h2: ∀x,x<ts.length→inF ts 32 x≤60000):(printF ts).2=0:=by
 have hs:shapedF ts=true:=by unfold shapedF;rw[h1];simp[h0]
 have hb: ¬bigF ts=true:=fun e=>by
  unfold bigF at e
  rw[List.any_eq_true] at e
  obtain⟨x,hx,h3⟩:=e
  have h4:=szOf_le (h2 x (List.mem_range.1 hx)) (by omega)
  have h3:65536<szOf (inF ts 32 x):=of_decide_eq_true h3
  omega
 unfold printF
 rw[if_neg (by rw[hs];simp),if_neg hb]
theorem print_size {ts:List Tlv} (h:(printF ts).2=0):(printF ts).1.length=szOf (inF ts 32 0):=by
 have h1:shapedF ts=true:=by
  cases e:shapedF ts
  ·unfold printF at h;rw[if_pos e] at h;simp at h
  ·rfl
 have h2: ¬bigF ts=true:=fun e=>by unfold printF at h;rw[if_neg (by rw[h1];simp),if_pos e] at h;simp at h
 have e:printF ts=(fl ts (inI ts) 0 ts.length,0):=by unfold printF;rw[if_neg (by rw[h1];simp),if_neg h2]
 obtain⟨s1,s2,s3⟩:=shapedF_shp h1
 have h3:=s3.len ts.length 0 (by omega) s2
 have h4:nxI ts 0=ts.length:=by unfold nxI nxG;rw[s1];rfl
 rw[h4,Nat.sub_zero] at h3
 rw[e]
 exact h3
theorem print_3 {p q:Tlv} (hp:Prim p) (hq:Prim q) (h1:p.data.length≤3000) (h2:q.data.length≤3000):(printF [⟨48,[],2⟩,p,q]).2=0∧(printF [⟨48,[],2⟩,p,q]).1.length≤6100:=by
 have a1:=prim_at (ts:=[⟨48,[],2⟩,p,q]) (x:=1) rfl hp
 have a2:=prim_at (ts:=[⟨48,[],2⟩,p,q]) (x:=2) rfl hq
 have a0:=fun d=>node_at (ts:=[⟨48,[],2⟩,p,q]) (x:=0) (n:=2) rfl (d:=d) (b:=3) (by simp only[stK,Nat.zero_add,(a1 d).1,(a2 d).1])
 have z1:=szOf_le h1 (by omega)
 have z2:=szOf_le h2 (by omega)
 have b0:inF [⟨48,[],2⟩,p,q] 32 0≤6020:=by
  rw[(a0 31).2];simp only[kdN,nxG,Nat.zero_add,(a1 31).1,(a1 31).2,(a2 31).2,Option.getD_some];omega
 have hok:(printF [⟨48,[],2⟩,p,q]).2=0:=by
  refine print_ok (a0 31).1 (by simp) fun x hx=> ?_
  have:x=0∨x=1∨x=2:=by simp at hx;omega
  rcases this with rfl|rfl|rfl
  ·omega
  ·rw[(a1 32).2];omega
  ·rw[(a2 32).2];omega
 refine⟨hok,?_⟩
 rw[print_size hok]
 have:=szOf_le b0 (by omega)
 omega
theorem print_4 {p r:Tlv} (hp:Prim p) (hr:Prim r) (h1:p.data.length≤3000) (h3:r.data.length≤10000):(printF [⟨48,[],2⟩,⟨48,[],1⟩,p,r]).2=0:=by
 have a2:=prim_at (ts:=[⟨48,[],2⟩,⟨48,[],1⟩,p,r]) (x:=2) rfl hp
 have a3:=prim_at (ts:=[⟨48,[],2⟩,⟨48,[],1⟩,p,r]) (x:=3) rfl hr
 have a1:=fun d=>node_at (ts:=[⟨48,[],2⟩,⟨48,[],1⟩,p,r]) (x:=1) (n:=1) rfl (d:=d) (b:=3) (by simp only[stK,Nat.reduceAdd,(a2 d).1])
 have a0:=fun d=>node_at (ts:=[⟨48,[],2⟩,⟨48,[],1⟩,p,r]) (x:=0) (n:=2) rfl (d:=d+1) (b:=4) (by simp only[stK,Nat.zero_add,(a1 d).1,(a3 (d+1)).1])
 refine print_ok (a0 30).1 (by simp) fun x hx=> ?_
 have:x=0∨x=1∨x=2∨x=3:=by simp at hx;omega
 have z1:=szOf_le h1 (by omega)
 have z3:=szOf_le h3 (by omega)
 have b1: ∀d,inF [⟨48,[],2⟩,⟨48,[],1⟩,p,r] (d+1) 1≤3010:=fun d=>by
  rw[(a1 d).2];simp only[kdN,Nat.reduceAdd,(a2 d).2];omega
 rcases this with rfl|rfl|rfl|rfl
 ·have:=szOf_le (b1 30) (by omega)
  rw[(a0 30).2];simp only[kdN,nxG,Nat.zero_add,Nat.reduceAdd,(a1 30).1,(a3 31).2,Option.getD_some] at this⊢;omega
 ·exact Nat.le_trans (b1 31) (by omega)
 ·rw[(a2 32).2];omega
 ·rw[(a3 32).2];omega
theorem print_5 {p q r:Tlv} (hp:Prim p) (hq:Prim q) (hr:Prim r) (h1:p.data.length≤3000) (h2:q.data.length≤3000) (h3:r.data.length≤10000):(printF [⟨48,[],2⟩,⟨48,[],2⟩,p,q,r]).2=0:=by
 have a2:=prim_at (ts:=[⟨48,[],2⟩,⟨48,[],2⟩,p,q,r]) (x:=2) rfl hp
 have a3:=prim_at (ts:=[⟨48,[],2⟩,⟨48,[],2⟩,p,q,r]) (x:=3) rfl hq
 have a4:=prim_at (ts:=[⟨48,[],2⟩,⟨48,[],2⟩,p,q,r]) (x:=4) rfl hr
 have a1:=fun d=>node_at (ts:=[⟨48,[],2⟩,⟨48,[],2⟩,p,q,r]) (x:=1) (n:=2) rfl (d:=d) (b:=4) (by simp only[stK,Nat.reduceAdd,(a2 d).1,(a3 d).1])
 have a0:=fun d=>node_at (ts:=[⟨48,[],2⟩,⟨48,[],2⟩,p,q,r]) (x:=0) (n:=2) rfl (d:=d+1) (b:=5) (by simp only[stK,Nat.zero_add,(a1 d).1,(a4 (d+1)).1])
 refine print_ok (a0 30).1 (by simp) fun x hx=> ?_
 have:x=0∨x=1∨x=2∨x=3∨x=4:=by simp at hx;omega
 have z1:=szOf_le h1 (by omega)
 have z2:=szOf_le h2 (by omega)
 have z3:=szOf_le h3 (by omega)
 have b1: ∀d,inF [⟨48,[],2⟩,⟨48,[],2⟩,p,q,r] (d+1) 1≤6020:=fun d=>by
  rw[(a1 d).2];simp only[kdN,nxG,Nat.reduceAdd,(a2 d).1,(a2 d).2,(a3 d).2,Option.getD_some];omega
 rcases this with rfl|rfl|rfl|rfl|rfl
 ·have:=szOf_le (b1 30) (by omega)
  rw[(a0 30).2];simp only[kdN,nxG,Nat.zero_add,Nat.reduceAdd,(a1 30).1,(a4 31).2,Option.getD_some] at this⊢;omega
 ·exact Nat.le_trans (b1 31) (by omega)
 ·rw[(a2 32).2];omega
 ·rw[(a3 32).2];omega
 ·rw[(a4 32).2];omega
theorem prim_shaped {t:Tlv} (h:shapedF [t]=true) (hi:innerF t.tag=false):Prim t:=by
 obtain⟨h1,_,_⟩:=shapedF_shp h
 have h1:stB [t] (some (stF [t] 31)) 0=some 1:=h1
 obtain⟨_,h2,h3|h3⟩:=stB_cases h1
 ·exact⟨h2,hi,h3.2.1,h3.2.2.1⟩
 ·have h4:innerF t.tag=true:=h3.1
  rw[hi] at h4;cases h4
theorem oidB_some {s:List UInt8} (h:(ooF (spl 46 s)).isSome=true):ooF (spl 46 s)=some (oidB s):=by
 obtain⟨d,hd⟩:=Option.isSome_iff_exists.1 h
 unfold oidB;rw[hd];rfl
theorem prim_oid {s:List UInt8} (h:(ooF (spl 46 s)).isSome=true):Prim ⟨6,oidB s,0⟩:=prim_shaped (oid_of (oidB_some h)).2 (by exact(by decide:innerF 6=false))
theorem prim_null:Prim ⟨5,[],0⟩:=⟨by decide,by decide,rfl,by decide⟩
theorem prim_bits (key:List UInt8):Prim ⟨3,0::key,0⟩:=by
 refine⟨(by decide:tagF 3=true),(by decide:innerF 3=false),rfl,?_⟩
 show rightF 3 (0::key)=true
 unfold rightF
 rw[if_neg (by decide),if_neg (by decide),if_pos rfl,byteAt_cons]
 rcases key with _|⟨c,r⟩
 ·rfl
 ·have h1:(((0:UInt8).toNat:Nat):Int)=0:=rfl
  rw[h1,show((0:Int).toNat)=0 from rfl,Int.pow_zero,Int.emod_one]
  simp
  omega
theorem prim_uint (b:List UInt8):Prim ⟨2,ofuD b,0⟩:=⟨(by decide:tagF 2=true),(by decide:innerF 2=false),rfl,(of_uint (uint_of b)).2.2.2.1⟩
theorem isF_of {s:List UInt8} (h:(ooF (spl 46 s)).isSome=true) (s':List UInt8):isF ⟨6,oidB s,0⟩ s'=(s==s'):=by
 unfold isF
 rw[(oid_of (oidB_some h)).1]
 rfl
theorem un_nil {l:List (List UInt8)} (h:unB l=true): ∀b∈l,b=[]:=by
 have key: ∀l:List (List UInt8),(l.map List.length).sum=0→ ∀b∈l,b=[]:=by
  intro l
  induction l with
  |nil=>intro _ b hb;cases hb
  |cons a r ih=>
   intro h b hb
   rw[List.map_cons,List.sum_cons] at h
   rcases List.mem_cons.1 hb with rfl|hb
   ·exact List.length_eq_zero_iff.1 (by omega)
   ·exact ih (by omega) b hb
 unfold unB lnB at h
 exact key l (of_decide_eq_true h)
theorem nb_app1 (c:UInt8): ∀r:List UInt8,∀a:Nat,List.foldl (fun a c=>256*a+c.toNat) a r=a*256^r.length+nb r
 |[],a=>by simp[nb]
 |d::r,a=>by
  unfold nb
  rw[List.foldl_cons,List.foldl_cons,nb_app1 c r,nb_app1 c r,List.length_cons,Nat.pow_succ,Nat.mul_zero,Nat.zero_add,Nat.add_mul,Nat.mul_comm 256 a,Nat.mul_assoc,Nat.mul_comm 256]
  omega
theorem nb_lead {b:List UInt8} (h:byteAt b 0≠0) (h0:0<b.length):256^(b.length-1)≤nb b:=by
 rcases b with _|⟨c,r⟩
 ·simp at h0
 ·have hc:c.toNat≠0:=fun e=>h (by rw[byteAt_cons,e];rfl)
  have h1:=nb_app1 c r c.toNat
  have h2:nb (c::r)=List.foldl (fun a c=>256*a+c.toNat) c.toNat r:=by unfold nb;rw[List.foldl_cons,Nat.mul_zero,Nat.zero_add]
  rw[h2,h1,List.length_cons,Nat.add_sub_cancel]
  have h3:1*256^r.length≤c.toNat*256^r.length:=Nat.mul_le_mul_right _ (by omega)
  omega
theorem len_of_nb {b:List UInt8} (h:byteAt b 0≠0) {k:Nat} (hk:nb b<256^k):b.length≤k:=by
 rcases Nat.eq_zero_or_pos b.length with h0|h0
 ·omega
 ·have h1:=nb_lead h h0
  have h2:256^(b.length-1)<256^k:=by omega
  have:=(Nat.pow_lt_pow_iff_right (a:=256) (by omega)).1 h2
  omega
theorem leastF_self {b:List UInt8} (h:byteAt b 0≠0):leastF b=b:=by
 rcases b with _|⟨c,r⟩
 ·rfl
 ·rw[leastF,if_neg]
  intro e
  subst e
  exact h rfl
theorem rs_facts {n e:List UInt8} (h:rsC n e=0):leastF n=n∧leastF e=e∧n.length≤512∧e.length≤8:=by
 unfold rsC at h
 split at h
 ·cases h
 ·rename_i h1
  simp only[Bool.or_eq_true,not_or,Bool.not_eq_true] at h1
  obtain⟨hA,hB⟩:=h1
  unfold rsA at hA
  unfold rsB at hB
  simp only[Bool.or_eq_false_iff,beq_eq_false_iff_ne,decide_eq_false_iff_not,Bool.not_eq_false',decide_eq_true_eq] at hA hB
  have hn:=hA.1.1.1.2
  have he:=hA.2
  refine⟨leastF_self hn,leastF_self he,len_of_nb hn ?_,len_of_nb he ?_⟩
  ·have h2:=bl_lt (nb n)
   refine Nat.lt_of_lt_of_le h2 ?_
   rw[show(256:Nat)=2^8 from rfl,←Nat.pow_mul]
   exact Nat.pow_le_pow_right (by omega) (by omega)
  ·exact hB.1.1.1.2
theorem read_ec {c:Int} {x y:List UInt8} (hc:c=1∨c=2) (hx:(x.length:Int)=sizeC c) (hy:(y.length:Int)=sizeC c):readF' (elemF (algE c) (4::(x++y))) 0=(⟨3,c,[],[],[],x,y⟩,none):=by
 have i1:isF ⟨6,oidB ecN,0⟩ rsaN=false:=by rw[isF_of nm_ec.1];decide
 have i2:isF ⟨6,oidB ecN,0⟩ ecN=true:=by rw[isF_of nm_ec.1];decide
 have i3:ecF c (4::(x++y))=(⟨3,c,[],[],[],x,y⟩,none):=by
  unfold ecF
  rw[if_neg]
  ·have e1:(sizeC c).toNat=x.length:=by omega
   have e2:(sizeC c).toNat=y.length:=by omega
   rw[e1]
   simp
  ·simp only[List.length_cons,List.length_append,byteAt_cons]
   intro h
   rcases h with h|h
   ·omega
   ·exact h rfl
 have key:rdKey (elemF (algE c) (4::(x++y))) (4::(x++y))=(⟨3,c,[],[],[],x,y⟩,none):=by
  unfold rdKey
  have c0:((elemF (algE c) (4::(x++y))).getD 2 default)=⟨6,oidB ecN,0⟩:=rfl
  have c1:((elemF (algE c) (4::(x++y))).getD 3 default)=⟨6,oidB (cvN c),0⟩:=rfl
  have c2:(((elemF (algE c) (4::(x++y))).length:Int)==4)=false:=rfl
  have c3:(((elemF (algE c) (4::(x++y))).length:Int)==5)=true:=rfl
  rw[c0,c1,c2,c3,i1,i2,isF_of (nm_cv c).1,isF_of (nm_cv c).1]
  rcases hc with rfl|rfl
  ·rw[if_neg (by simp),if_neg (by simp),if_pos (by decide),i3]
  ·rw[if_neg (by simp),if_neg (by simp),if_neg (by decide),if_pos (by decide),i3]
 unfold readF'
 rw[if_neg (by decide),if_neg (by rw[show rdBad (elemF (algE c) (4::(x++y))) 0=false from rfl];simp)]
 have c4:(elemF (algE c) (4::(x++y))).getD ((elemF (algE c) (4::(x++y))).length-1) default=⟨3,0::4::(x++y),0⟩:=rfl
 rw[c4,if_neg (by rw[show rdBit ⟨3,0::4::(x++y),0⟩=false from rfl];simp)]
 exact key
theorem read_rsa {n e:List UInt8} (h:rsC n e=0):(printF (innL n e)).1.length≤6100∧readF' (elemF algR (printF (innL n e)).1) 0=(⟨2,0,[],n,e,[],[]⟩,none):=by
 obtain⟨h1,h2,h3,h4⟩:=rs_facts h
 obtain⟨hp,hpl⟩:(printF (innL n e)).2=0∧(printF (innL n e)).1.length≤6100:=print_3 (prim_uint n) (prim_uint e) (by have:=ofuD_len n;show(ofuD n).length≤_;omega) (by have:=ofuD_len e;show(ofuD e).length≤_;omega)
 obtain⟨hq,_⟩:=parse_print hp
 refine⟨hpl,?_⟩
 clear hpl
 generalize (printF (innL n e)).1=key at hq⊢
 have i1:isF ⟨6,oidB rsaN,0⟩ rsaN=true:=by rw[isF_of nm_rsa.1];decide
 have i3:rsaF key=(⟨2,0,[],n,e,[],[]⟩,none):=by
  unfold rsaF
  rw[hq]
  have u1:(innL n e).getD 1 default=⟨2,ofuD n,0⟩:=rfl
  have u2:(innL n e).getD 2 default=⟨2,ofuD e,0⟩:=rfl
  simp only[u1,u2,uint_of,h1,h2]
  rw[if_neg (by simp[innL]),if_pos (by simp)]
 have key2:rdKey (elemF algR key) key=(⟨2,0,[],n,e,[],[]⟩,none):=by
  unfold rdKey
  have c0:((elemF algR key).getD 2 default)=⟨6,oidB rsaN,0⟩:=rfl
  have c1:((elemF algR key).getD 3 default)=⟨5,[],0⟩:=rfl
  have c2:(((elemF algR key).length:Int)==4)=false:=rfl
  have c3:(((elemF algR key).length:Int)==5)=true:=rfl
  rw[c0,c1,c2,c3,i1,if_neg (by simp),if_pos (by decide),i3]
 unfold readF'
 rw[if_neg (by decide),if_neg (by rw[show rdBad (elemF algR key) 0=false from rfl];simp)]
 have c4:(elemF algR key).getD ((elemF algR key).length-1) default=⟨3,0::key,0⟩:=rfl
 rw[c4,if_neg (by rw[show rdBit ⟨3,0::key,0⟩=false from rfl];simp)]
 exact key2
theorem read_ed {x:List UInt8} (h:x.length=32):readF' (elemF algO x) 0=(⟨4,3,[],[],[],x,[]⟩,none):=by
 have i1:isF ⟨6,oidB edN,0⟩ edN=true:=by rw[isF_of nm_ed.1];decide
 have key2:rdKey (elemF algO x) x=(⟨4,3,[],[],[],x,[]⟩,none):=by
  unfold rdKey
  have c0:((elemF algO x).getD 2 default)=⟨6,oidB edN,0⟩:=rfl
  have c2:(((elemF algO x).length:Int)==4)=true:=rfl
  rw[c0,c2,i1,h,if_pos (by decide)]
 unfold readF'
 rw[if_neg (by decide),if_neg (by rw[show rdBad (elemF algO x) 0=false from rfl];simp)]
 have c4:(elemF algO x).getD ((elemF algO x).length-1) default=⟨3,0::x,0⟩:=rfl
 rw[c4,if_neg (by rw[show rdBit ⟨3,0::x,0⟩=false from rfl];simp)]
 exact key2
theorem back (k:Ky) (hg:k.good=true) (h1:k.kty≠1):k.pr.2=0∧parK k.pr.1=(k,0)∧parseF k.pr.1=(k.els,0,0)∧k.pr=printF k.els:=by
 have hpr:k.pr=printF k.els:=by unfold Ky.pr;rw[if_pos ⟨hg,h1⟩]
 suffices h:(printF k.els).2=0∧readF' k.els 0=(k,none) by
  obtain⟨hp,hr⟩:=h
  obtain⟨hq,_⟩:=parse_print hp
  have hs:sreadF (printF k.els).1=(k,none):=by unfold sreadF;rw[hq];exact hr
  rw[hpr]
  refine⟨hp,?_,hq,rfl⟩
  unfold parK
  rw[hs]
  exact if_pos hg
 clear hpr
 unfold Ky.good goodK at hg
 rw[if_neg h1] at hg
 rcases k with ⟨kty,crv,s,n,e,x,y⟩
 simp only at hg h1
 unfold Ky.els
 simp only
 by_cases h2:kty=2
 ·subst h2
  rw[if_pos rfl] at hg⊢
  simp only[Bool.and_eq_true,decide_eq_true_eq] at hg
  obtain⟨rfl,hu,hr⟩:=hg
  have hu:=un_nil hu
  obtain rfl:s=[]:=hu _ (by simp)
  obtain rfl:x=[]:=hu _ (by simp)
  obtain rfl:y=[]:=hu _ (by simp)
  obtain⟨q1,q2⟩:=read_rsa hr
  refine⟨print_5 (prim_oid nm_rsa.1) prim_null (prim_bits _) (by rw[nm_rsa.2];decide) (by decide) ?_,q2⟩
  show(0::(printF (innL n e)).1).length≤_
  rw[List.length_cons]
  omega
 rw[if_neg h2] at hg⊢
 by_cases h3:kty=3
 ·subst h3
  rw[if_pos rfl] at hg⊢
  simp only[Bool.and_eq_true] at hg
  obtain⟨ho,hu⟩:=hg
  have hu:=un_nil hu
  obtain rfl:s=[]:=hu _ (by simp)
  obtain rfl:n=[]:=hu _ (by simp)
  obtain rfl:e=[]:=hu _ (by simp)
  obtain⟨hc,hx,hy⟩:(crv=1∨crv=2)∧(x.length:Int)=sizeC crv∧(y.length:Int)=sizeC crv:=by
   unfold crvOk at ho
   split at ho
   ·rename_i hc;subst hc
    unfold gOk at ho
    simp only[Bool.and_eq_true,decide_eq_true_eq] at ho
    exact⟨.inl rfl,by rw[ho.1];rfl,by rw[ho.2.1];rfl⟩
   ·split at ho
    ·rename_i hc;subst hc
     unfold gOk at ho
     simp only[Bool.and_eq_true,decide_eq_true_eq] at ho
     exact⟨.inr rfl,by rw[ho.1];rfl,by rw[ho.2.1];rfl⟩
    ·cases ho
  have hs:sizeC crv≤48:=by rcases hc with rfl|rfl<;>decide
  refine⟨print_5 (prim_oid nm_ec.1) (prim_oid (nm_cv crv).1) (prim_bits _) (by rw[nm_ec.2];decide) (by have:=(nm_cv crv).2.1;show(oidB (cvN crv)).length≤_;omega) ?_,read_ec hc hx hy⟩
  show(0::4::(x++y)).length≤_
  simp only[List.length_cons,List.length_append]
  omega
 rw[if_neg h3] at hg⊢
 by_cases h4:kty=4
 ·subst h4
  rw[if_pos rfl] at hg
  simp only[Bool.and_eq_true,decide_eq_true_eq] at hg
  obtain⟨rfl,hu,ho⟩:=hg
  have hu:=un_nil hu
  obtain rfl:s=[]:=hu _ (by simp)
  obtain rfl:n=[]:=hu _ (by simp)
  obtain rfl:e=[]:=hu _ (by simp)
  obtain rfl:y=[]:=hu _ (by simp)
  have hx:x.length=32:=by
   unfold edOk at ho
   simp only[Bool.and_eq_true,decide_eq_true_eq] at ho
   exact ho.1
  refine⟨print_4 (prim_oid nm_ed.1) (prim_bits _) (by rw[nm_ed.2];decide) (by show(0::x).length≤_;simp only[List.length_cons];omega),read_ed hx⟩
 rw[if_neg h4] at hg
 cases hg
theorem cutN_app {a r:List UInt8} (h:(10:UInt8)∉a):cutN (a++10::r)=(a,r,true):=by
 have h1:(a++10::r).idxOf 10=a.length:=by
  rw[List.idxOf_append,if_neg h,List.idxOf_cons_self,Nat.zero_add]
 unfold cutN
 rw[if_pos (by simp),h1,List.take_left' rfl]
 congr 2
 rw[show a.length+1=(a++[10]).length by simp,show a++10::r=(a++[10])++r by simp,List.drop_left]
theorem pemL_eq {s:List UInt8}:pemL s=[]↔s=[]:=by
 constructor
 ·intro h
  rcases s with _|⟨c,r⟩
  ·rfl
  ·rw[pemL_ne (by simp)] at h
   simp at h
 ·rintro rfl;exact pemL_nil
theorem unP_pemL: ∀n,∀s:List UInt8,s.length≤n→(∀c∈s,c≠10)→unP (pemL s)=some s
 |0,s,hn,_=>by
  obtain rfl:s=[]:=List.length_eq_zero_iff.1 (by omega)
  rw[pemL_nil,unP_nil]
 |n+1,s,hn,h=>by
  by_cases hs:s=[]
  ·subst hs;rw[pemL_nil,unP_nil]
  ·have hp:=List.length_pos_iff.2 hs
   have ha:(10:UInt8)∉s.take 64:=fun hm=>h 10 (List.mem_of_mem_take hm) rfl
   have hr:=unP_pemL n (s.drop 64) (by rw[List.length_drop];omega) fun c hc=>h c (List.mem_of_mem_drop hc)
   have hb:badL (s.take 64,pemL (s.drop 64),true)=false:=by
    unfold badL
    have e1:(s.take 64==[])=false:=beq_eq_false_iff_ne.2 fun e=>by
     have:=congrArg List.length e
     rw[List.length_take] at this
     simp only[List.length_nil] at this
     omega
    have hl:(s.take 64).length≤64:=by rw[List.length_take];omega
    have e2:decide ((64:Int)<((s.take 64).length:Int))=false:=decide_eq_false (by omega)
    simp only[e1,e2,Bool.not_true,Bool.or_false,Bool.false_or]
    by_cases h64:s.length<64
    ·rw[List.drop_eq_nil_of_le (by omega),pemL_nil]
     simp
    ·rw[decide_eq_false (by rw[List.length_take];omega),Bool.false_and]
   rw[pemL_ne hs,unP_ne (by simp),cutN_app ha,if_neg (by rw[hb];simp),hr]
   simp
theorem enc_no10 (b:List UInt8): ∀c∈encF stdS b,c≠10:=by
 intro c hc e
 subst e
 unfold encF at hc
 rw[List.mem_append] at hc
 rcases hc with hc|hc
 ·exact absurd (spell_mem (S:=stdS) rfl b _ hc) (by decide)
 ·have:=List.eq_of_mem_replicate hc
  exact absurd this (by decide)
theorem enc_eq {b:List UInt8}:encF stdS b=[]↔b=[]:=by
 constructor
 ·intro h
  have h1:=dec_enc b
  have h2:=dec_enc []
  rw[show encF stdS []=[] from rfl] at h2
  rw[h,h2] at h1
  exact(congrArg Prod.fst h1).symm
 ·rintro rfl;rfl
theorem trimP_app (p s:List UInt8):Lib.hasPrefix (p++s) p=true∧Lib.trimPrefix (p++s) p=s:=by
 have h:Lib.hasPrefix (p++s) p=true:=by
  unfold Lib.hasPrefix
  rw[List.isPrefixOf_iff_prefix]
  exact List.prefix_append _ _
 refine⟨h,?_⟩
 unfold Lib.trimPrefix
 rw[if_pos h,List.drop_left]
theorem trimS_app (p s:List UInt8):Lib.hasSuffix (s++p) p=true∧Lib.trimSuffix (s++p) p=s:=by
 have h:Lib.hasSuffix (s++p) p=true:=by
  unfold Lib.hasSuffix
  rw[List.isSuffixOf_iff_suffix]
  exact List.suffix_append _ _
 refine⟨h,?_⟩
 unfold Lib.trimSuffix
 rw[if_pos h,List.length_append,Nat.add_sub_cancel,List.take_left]
theorem unF_pemF (b:List UInt8):unF (pemF b)=if b=[] then (z0,92) else parK b:=by
 unfold unF pemF
 obtain⟨h1,h2⟩:=trimP_app beginN (pemL (encF stdS b)++endN)
 obtain⟨h3,h4⟩:=trimS_app endN (pemL (encF stdS b))
 rw[h1,h2,h3,h4]
 by_cases hb:b=[]
 ·subst hb
  rw[if_pos rfl,if_pos]
  rw[show encF stdS []=[] from rfl,pemL_nil]
  rfl
 ·have e:(pemL (encF stdS b)==[])=false:=beq_eq_false_iff_ne.2 fun e=>hb (enc_eq.1 (pemL_eq.1 e))
  rw[if_neg hb,if_neg (by rw[e];decide),unP_pemL _ _ (Nat.le_refl _) (enc_no10 b)]
  simp only[dec_enc]
  rfl
theorem back_pem (k:Ky) (hg:k.good=true) (h1:k.kty≠1):k.pem.2=0∧unF k.pem.1=(k,0):=by
 obtain⟨h2,h3,h4,h5⟩:=back k hg h1
 unfold Ky.pem
 rw[if_pos h2]
 refine⟨rfl,?_⟩
 rw[unF_pemF,if_neg,h3]
 intro e
 have h6:=print_size (ts:=k.els) (by rw[←h5];exact h2)
 rw[←h5,e] at h6
 unfold szOf at h6
 simp only[List.length_nil] at h6
 omega
open Nat (reduceMul reduceLeDiff reduceEqDiff reduceLT reduceAdd reduceSub reduceDiv)
open Int (reduceToNat reducePow)
open Go.RowKit
def BKh:FuncId→List V→List (Nat×Ob)→Nat→Option CallH:=fun f args _ nx=>
 if f=25 then match args with
  |[.st [.val (.int .i64 a), .by d, .val (.int .i64 b)]]=>some ⟨[d.length≤140737488355328],[],[], .tu [.ro (.r nx), .bb (uintF ⟨a,d,b⟩).2],[(nx, .row 5 (.by (uintF ⟨a,d,b⟩).1))],nx+1⟩
  |_=>none
 else none
theorem BKh_ok (J:Inv) (f:FuncId) (args:List V) (h:List (Nat×Ob)) (nx:Nat) (c:CallH) (hc:BKh f args h nx=some c) (hl:AllP c.l):FnH Tryz.prog J f (mixA h c.bw args).1 c.pre nx c.res c.post c.nx:=by
 unfold BKh at hc
 split at hc
 ·rename_i hf;subst hf
  split at hc
  ·rename_i a d b
   obtain rfl:=Option.some.inj hc
   have h1:d.length≤140737488355328:=hl _ (by simp)
   exact Uint_own J ⟨a,d,b⟩ nx h1
  ·cases hc
 ·cases hc
def BKaf:FuncId→List V→CR:=fun f args=>tab [(23,cY fun b=>cF [b.length≤140737488355328] false (.tu [tlsV (parseF b).1, .i (parseF b).2.1, .i (parseF b).2.2]))] noF f args
def BKa (J:Inv):Sig:=⟨J,sdf,BKaf,noH,0⟩
theorem BKa_ok (J:Inv):SigOk Tryz.prog (BKa J):= .plain (tab_ok (.c (.y fun b=> .z fun⟨c0,_⟩=>parse_fn J b c0)<| .n) noF_ok)
def BK (J:Inv) (nx:Nat):Sig:=⟨J,sdf,BKaf,BKh,nx⟩
theorem BK_ok (J:Inv) (nx:Nat):SigOk Tryz.prog (BK J nx):=⟨(BKa_ok J).1,BKh_ok J⟩
def koV (kty crv:Int) (l:List (Option Nat)):V:= .st (.val (.int .i64 kty):: .val (.int .i64 crv)::l.map fun o=>match o with
 |some k=> .ro (.r k)
 |none=> .val (.slice none 0 0))
theorem rsaO_own (J:Inv) (n e key:List UInt8) (nx:Nat) (hr:rsC n e=0) (hk:key=(printF (innL n e)).1):FnH Tryz.prog J 76 [.by key] [] nx (.tu [koV 2 0 [none,some nx,some (nx+1),none,none], .val .nilIface]) [(nx, .row 5 (.by n)),(nx+1, .row 5 (.by e))] (nx+3):=by
 obtain⟨l1,l2,l3,l4⟩:=rs_facts hr
 obtain⟨hp,hpl⟩:(printF (innL n e)).2=0∧(printF (innL n e)).1.length≤6100:=print_3 (prim_uint n) (prim_uint e) (by have:=ofuD_len n;show(ofuD n).length≤_;omega) (by have:=ofuD_len e;show(ofuD e).length≤_;omega)
 obtain⟨hq, -⟩:=parse_print hp
 rw[←hk] at hq hpl
 clear hk hp
 obtain⟨ws,hws⟩: ∃ws,innL n e=ws:=⟨_,rfl⟩
 have f0:ws=[⟨48,[],2⟩,⟨2,ofuD n,0⟩,⟨2,ofuD e,0⟩]:=by rw[←hws];rfl
 rw[hws] at hq
 have w0:ws.getD 0 default=⟨48,[],2⟩:=by rw[f0];rfl
 have w1:ws.getD 1 default=⟨2,ofuD n,0⟩:=by rw[f0];rfl
 have w2:ws.getD 2 default=⟨2,ofuD e,0⟩:=by rw[f0];rfl
 have wl:ws.length=3:=by rw[f0];rfl
 clear f0 hws
 have u1:uintF ⟨2,ofuD n,0⟩=(leastF n,true):=uint_of n
 have u2:uintF ⟨2,ofuD e,0⟩=(leastF e,true):=uint_of e
 have d2:(ofuD n).length≤65536:=by have:=ofuD_len n;omega
 have d3:(ofuD e).length≤65536:=by have:=ofuD_len e;omega
 generalize ofuD n=N at w1 u1 d2
 generalize ofuD e=E at w2 u2 d3
 refine fnC Tryz.func76 rfl (by kernel_rfl) (BK_ok J nx) rfl ?_
 unfold Tryz.f76
 have c3:((3:Nat):Int)=3:=rfl
 have b0: ∀a:Int,(a==a)=true:=fun a=>beq_self_eq_true a
 have n1: ∀j,(nx+j<nx)=False:=fun j=>by simp
 have n0:(nx<nx)=False:=by simp
 simp only[↓bD,bQ,reduceLeDiff,reduceEqDiff,reduceLT,reduceAdd,↓reduceIte,reduceCtorEq,reduceToNat,bnB,BK,BKh,BKaf,tlsV,tlvD,koV,hq,w0,w1,w2,wl,u1,u2,l1,l2,c3]
 refine⟨by omega,fun _=>by omega,fun _=>by omega,fun _=>by omega,fun _=>by omega,by omega,by omega,by omega,by omega,by omega,by omega,RenC.intro [(nx,nx+1),(nx+1,nx+2),(nx+2,nx)] ⟨[(2, .op (nx+2) 0),(3, .val .nilIface)],[(nx+2, .box 26 (koV 2 0 [none,some nx,some (nx+1),none,none])),(nx, .row 5 (.by n)),(nx+1, .row 5 (.by e))],nx+3⟩ ?_ ?_⟩
 ·simp only[bQ,reduceEqDiff,↓reduceIte,reduceCtorEq,koV,n0,n1]
  omega
 ·simp only[bQ,reduceLeDiff,reduceEqDiff,reduceLT,reduceAdd,↓reduceIte,reduceCtorEq,koV]
  exact Nat.le_refl _
def BKbf:FuncId→List V→CR:=fun f args=>tab [(26,cI .i64 fun c=>cF [c=1∨c=2] false (.i (sizeC c)))] noF f args
def BKb (J:Inv):Sig:=⟨J,sdf,BKbf,noH,0⟩
theorem BKb_ok (J:Inv):SigOk Tryz.prog (BKb J):= .plain (tab_ok (.c (.i fun c=> .z fun⟨c0,_⟩=>csize_fn J c c0)<| .n) noF_ok)
def BKc (J:Inv) (nx:Nat):Sig:=⟨J,sdf,BKbf,noH,nx⟩
theorem BKc_ok (J:Inv) (nx:Nat):SigOk Tryz.prog (BKc J nx):= .plain fun f args l fr r h hl=>(BKb_ok J).1 f args l fr r h hl
theorem ecO_own (J:Inv) (c:Int) (hc:c=1∨c=2) (x y:List UInt8) (nx N:Nat) (hN:sizeC c=N) (hx:x.length=N) (hy:y.length=N):FnH Tryz.prog J 77 [.i c, .by (4::(x++y))] [] nx (.tu [koV 3 c [none,none,none,some nx,some (nx+1)], .val .nilIface]) [(nx, .row 5 (.by x)),(nx+1, .row 5 (.by y))] (nx+5):=by
 have hNs:N≤48:=by rcases hc with rfl|rfl<;>(unfold sizeC at hN;simp at hN;omega)
 obtain⟨key,hkey⟩: ∃key,4::(x++y)=key:=⟨_,rfl⟩
 have kl:key.length=2*N+1:=by rw[←hkey];simp only[List.length_cons,List.length_append];omega
 have k4:byteAt key 0=4:=by rw[←hkey];rfl
 have kx:(key.drop 1).take N=x:=by rw[←hkey,List.drop_succ_cons,List.drop_zero,←hx,List.take_left]
 have ky:key.drop (N+1)=y:=by rw[←hkey,List.drop_succ_cons,←hx,List.drop_left]
 rw[hkey]
 clear hkey
 refine fnC Tryz.func77 rfl (by kernel_rfl) (BKc_ok J nx) rfl ?_
 unfold Tryz.f77
 have b0: ∀a:Int,(a==a)=true:=fun a=>beq_self_eq_true a
 have km:((key.length:Int)==2*(N:Int)+1)=true:=beq_iff_eq.2 (by omega)
 have kn:((N:Int)+1).toNat=N+1:=by omega
 have kx2:List.take (N+1-1) (List.drop 1 key)=x:=kx
 have ky2:List.take (key.length-(N+1)) (List.drop (N+1) key)=y:=by rw[ky];exact List.take_of_length_le (by omega)
 have n1: ∀j,(nx+j<nx)=False:=fun j=>by simp
 have n0:(nx<nx)=False:=by simp
 simp only[↓bD,bQ,reduceEqDiff,reduceLT,reduceAdd,↓reduceIte,reduceCtorEq,reduceToNat,BKc,BKbf,koV,hN,km,k4]
 refine⟨hc,by constructor<;>omega,by constructor<;>omega,fun _=>by omega,fun _=>by omega,?_⟩
 refine DrawC.sch [(0,some []),(1,some []),(2,some []),(3,some []),(4,some []),(6,some []),(7,some []),(8,some []),(9,some []),(5,none),(10,none),(11,none),(12,none),(13,some [0,1,2,3,4,5,6])] [(12,[0,1,2,3,4,5,6])] (by kernel_rfl) ?_
 simp only[bQ,reduceLeDiff,reduceEqDiff,reduceLT,reduceAdd,↓reduceIte,reduceCtorEq,reduceToNat,Nat.reduceBEq,kn,kx2,ky2]
 repeat' with_reducible apply And.intro
 all_goals first|omega|(constructor<;>omega)|skip
 refine RenC.intro [(nx,nx+1),(nx+1,nx+2),(nx+2,nx)] ⟨[(4, .op (nx+2) 0),(5, .val .nilIface)],[(nx+2, .box 26 (koV 3 c [none,none,none,some nx,some (nx+1)])),(nx, .row 5 (.by x)),(nx+1, .row 5 (.by y))],nx+3⟩ ?_ ?_
 ·simp only[bQ,reduceEqDiff,↓reduceIte,reduceCtorEq,koV,n0,n1]
  omega
 ·simp only[bQ,reduceLeDiff,reduceEqDiff,reduceLT,reduceAdd,↓reduceIte,reduceCtorEq,koV]
  omega
end Go.Proofs.YtfengpdaocgcnaaGreatDoor
