/- Division: by one word; shifting up; below. Knuth's trial digit. Plain Lean. Division: the trial digit. Long division, step by step. Plain Lean. -/
import Derived.Test.YtfengpdaocgcnaaGreatDoorT20
namespace Go.Proofs.YtfengpdaocgcnaaGreatDoor
open Nat (reduceMul reduceLeDiff reduceEqDiff reduceLT reduceAdd reduceSub reduceDiv)
open Int (reduceToNat reducePow)
open Go.RowKit
set_option linter.unusedSimpArgs false
set_option maxRecDepth 100000
def SGef:FuncId→List V→CR:=fun f args=>tab [(280,cI .u32 fun x=>cI .u32 fun y=>cI .u32 fun d=>cF [0≤x,x<d,0≤y,y<4294967296,d<4294967296] false (.tu [.val (.int .u32 ((4294967296*x.toNat+y.toNat)/d.toNat:Nat)), .val (.int .u32 ((4294967296*x.toNat+y.toNat)%d.toNat:Nat))]))] noF f args
def SGe (J:Inv):Sig:=⟨J,sdf,SGef,noH,0⟩
theorem SGe_ok (J:Inv):SigOk Tryz.prog (SGe J):= .plain (tab_ok (.c (.i fun x=> .i fun y=> .i fun d=> .z fun⟨c0,_,c2,_,_,_⟩=>(by have h:=div32_fn J x.toNat y.toNat d.toNat (by omega) (by omega) (by omega);rwa [Int.toNat_of_nonneg c0,Int.toNat_of_nonneg c2,Int.toNat_of_nonneg (show 0≤d by omega)] at h))<| .n) noF_ok)
theorem short_fn (J:Inv) (x:List Nat) (d:Nat) (hx:x.length≤67108864) (wx:W32 x) (hd:0<d) (hd2:d<4294967296):Fn Tryz.prog J 271 false [wV x, .val (.int .u32 d)] (.tu [wV (fw x.length (vl x/d)), .val (.int .u32 (vl x%d:Nat))]):=by
 refine fnI Tryz.func271 rfl (by kernel_rfl) (by simp[V.cl,clL,wV,wds_cl]) (SGe_ok J) ?_
 unfold Tryz.f271
 simp only[bR,reduceAdd,↓reduceIte,reduceCtorEq,SGe,sdf,wV]
 refine⟨by omega,by omega,by omega,by constructor<;>omega,?_⟩
 refine LoopC.intro (α:=Nat) (fun k=>k≤x.length) (fun k=>⟨[(0,wV x),(1, .val (.int .u32 d)),(6, .ro (.r 0)),(7, .val (.int .u32 (vl (x.drop k)%d:Nat))),(8, .i ((k:Int)-1))],[(0, .row 156 (wV (List.replicate k 0++fw (x.length-k) (vl (x.drop k)/d))))],1⟩) (fun k=>k) x.length (Nat.le_refl _) ?_ ?_
 ·simp only[bR,reduceLeDiff,reduceEqDiff,↓reduceIte,reduceCtorEq,wV]
  rw[List.drop_length,Nat.sub_self,show vl []=0 from rfl,Nat.zero_mod,Nat.zero_div,fw,List.append_nil]
  exact⟨rfl,rfl⟩
 ·intro k h3
  have hl:(List.replicate k 0++fw (x.length-k) (vl (x.drop k)/d)).length=x.length:=by rw[List.length_append,List.length_replicate,fw_len];omega
  simp only[↓bE,bR,reduceLeDiff,reduceEqDiff,reduceLT,reduceAdd,↓reduceIte,reduceCtorEq,SGef,wV,hl]
  refine⟨fun hk=> ?_,fun hk=> ?_⟩
  ·obtain⟨k,rfl⟩: ∃j,k=j+1:=⟨k-1,by simp at hk;omega⟩
   obtain⟨f1,f2⟩:=short_step (d:=d) (k:=k) (by omega) wx hd
   have hr:=Nat.mod_lt (vl (x.drop (k+1))) hd
   have hg:=wx.get k
   have t1:(((k+1:Nat):Int)-1).toNat=k:=by omega
   simp only[t1]
   refine⟨by omega,by omega,by omega,by omega,by omega,by omega,by omega,by omega,by omega,by omega,by constructor<;>omega,Again.intro k (by omega) (by omega) ?_⟩
   simp only[bR,reduceLeDiff,reduceEqDiff,↓reduceIte,reduceCtorEq,rep_set]
   rw[f2,←f1]
   exact⟨⟨rfl,by omega⟩,rfl⟩
  ·obtain rfl:k=0:=by simp at hk;omega
   rw[List.drop_zero,Nat.sub_zero,List.replicate_zero,List.nil_append]
   exact⟨rfl,rfl⟩
theorem up_fn (J:Inv) (k nx:Nat) (l x:List Nat) (s:Nat) (hs:s<32) (hl:l.length≤1073741824) (hx:x.length≤l.length) (wx:W32 x):FnH Tryz.prog J 282 [.ro (.r k),wV x, .i s] [(k, .row 156 (wV l))] nx (.tu []) [(k, .row 156 (wV (fw l.length (vl x*2^s))))] nx:=by
 refine fnJ Tryz.func282 rfl (by kernel_rfl) (SGbb_ok J nx) rfl ?_
 unfold Tryz.f282
 simp only[bR,reduceAdd,↓reduceIte,reduceCtorEq,SGbb,wV]
 refine LoopC.intro (α:=Nat) (fun i=>i≤l.length) (fun i=>⟨[(0, .ro (.r k)),(1,wV x),(2, .i s),(6, .val (.int .u32 (cyU x s i:Nat))),(10, .i l.length),(11, .i i)],[(k, .row 156 (wV (fw i (vl (x.take i)*2^s)++l.drop i)))],nx⟩) (fun i=>l.length-i) 0 (Nat.zero_le _) ?_ ?_
 ·simp only[bR,reduceEqDiff,↓reduceIte,reduceCtorEq,wV,fw,cyU]
  rw[show vl []=0 from rfl,Nat.zero_mul,Nat.zero_div]
  exact⟨⟨rfl,rfl⟩,Nat.le_refl _⟩
 ·intro i h3
  obtain⟨e0,e1⟩:=fw_drop_get (v:=vl (x.take i)*2^s) h3 rfl
  simp only[↓bE,bR,reduceLeDiff,reduceEqDiff,reduceLT,↓reduceIte,reduceCtorEq,reduceToNat,reducePow,wV,e0]
  have t2:((s:Int)).toNat=s:=by omega
  refine⟨fun hi=> ?_,fun hi=> ?_⟩
  ·have hi:i<l.length:=by simpa using hi
   have hw:=up_word wx hs i
   have hc:=cyU_step wx hs i
   have hcl:=cyU_lt wx s i
   have b1:=wx.get i
   have hp:2^s≤2^31:=Nat.pow_le_pow_right (by omega) (by omega)
   have hxs:x.getD i 0*2^s<18446744073709551616:=by
    have:=Nat.mul_le_mul (show x.getD i 0≤4294967295 by omega) hp
    omega
   have set1: ∀z,(fw i (vl (x.take i)*2^s)++l.drop i).set i z=fw i (vl (x.take i)*2^s)++z::l.drop (i+1):=fun z=>by
    rw[List.set_append_right _ _ (by rw[fw_len];omega),fw_len,Nat.sub_self,List.drop_eq_getElem_cons hi,List.set_cons_zero]
   have key:w32 (bt .or .u32 (wr .u32 ((x.getD i 0:Nat)*2^s)) (cyU x s i:Nat))=(x.getD i 0*2^s%4294967296)|||cyU x s i:=by
    have h1:x.getD i 0*2^s%4294967296<4294967296:=Nat.mod_lt _ (by omega)
    rw[show((x.getD i 0:Nat):Int)*2^s=((x.getD i 0*2^s:Nat):Int) by simp,wr32m,bt_eq,bits_or32 h1 (by omega),w32_nat,Nat.mod_eq_of_lt (Nat.or_lt_two_pow (n:=32) h1 (by omega))]
   have key2:wr .u32 (wr .u64 (wr .u64 (x.getD i 0:Nat)*2^s)/4294967296)=(cyU x s (i+1):Nat):=by
    rw[wr64n (by omega),show((x.getD i 0:Nat):Int)*2^s=((x.getD i 0*2^s:Nat):Int) by simp,wr64n hxs,show((x.getD i 0*2^s:Nat):Int)/4294967296=((x.getD i 0*2^s/4294967296:Nat):Int) by omega,←hc,wr32n]
    have:=cyU_lt wx s (i+1)
    omega
   have goal:fw i (vl (x.take i)*2^s)++((x.getD i 0*2^s%4294967296)|||cyU x s i)::l.drop (i+1)=fw (i+1) (vl (x.take (i+1))*2^s)++l.drop (i+1):=by
    rw[←hw,List.append_assoc];rfl
   refine⟨fun hj=> ?_,fun hj=> ?_⟩
   ·refine⟨by omega,by simpa using hj,by omega,by omega,by omega,hi,by omega,by omega,by constructor<;>omega,Again.intro (i+1) hi (by omega) ?_⟩
    simp only[bR,reduceEqDiff,↓reduceIte,reduceCtorEq]
    rw[if_pos (by omega),if_pos (by omega),set1,key,key2,goal]
    exact⟨⟨rfl,by omega⟩,rfl,Nat.le_refl _⟩
   ·have hz:x.getD i 0=0:=getD_ge (by simp at hj;omega)
    rw[hz] at key key2 goal
    refine⟨by omega,by omega,by omega,hi,by omega,by omega,by constructor<;>omega,Again.intro (i+1) hi (by omega) ?_⟩
    simp only[bR,reduceEqDiff,↓reduceIte,reduceCtorEq]
    rw[if_pos (by omega),if_pos (by omega),set1]
    refine⟨⟨key2,by omega⟩,?_,Nat.le_refl _⟩
    rw[←goal,←key]
    rfl
  ·obtain rfl:i=l.length:=by simp at hi;omega
   refine .inl ?_
   simp only[bR,reduceLeDiff,↓reduceIte,List.drop_length,List.append_nil]
   rw[List.take_of_length_le hx]
   exact⟨rfl,Nat.le_refl _⟩
theorem below_fn (J:Inv) (a b:List Nat) (ha:a.length≤1073741824) (hab:a.length=b.length) (wa:W32 a) (wb:W32 b):Fn Tryz.prog J 284 false [wV a,wV b] (.bb (decide (vl a<vl b))):=by
 refine fnI Tryz.func284 rfl (by kernel_rfl) rfl (SGa_ok J) ?_
 unfold Tryz.f284
 simp only[bR,reduceAdd,↓reduceIte,reduceCtorEq,SGa,wV]
 refine⟨by constructor<;>omega,?_⟩
 refine LoopC.intro (α:=Nat) (fun k=>k≤a.length∧cmp3 (vl a) (vl b)=cmp3 (vl (a.take k)) (vl (b.take k))) (fun k=>⟨[(0,wV a),(1,wV b),(5, .i ((k:Int)-1))],[],0⟩) (fun k=>k) a.length ⟨Nat.le_refl _,by rw[List.take_length,hab,List.take_length]⟩ ?_ ?_
 ·simp only[bR,reduceLeDiff,reduceEqDiff,↓reduceIte,reduceCtorEq,wV]
 ·rintro k ⟨h3,h4⟩
  simp only[bR,reduceEqDiff,reduceLT,↓reduceIte,reduceCtorEq,wV]
  refine⟨fun hk=> ?_,fun hk=> ?_⟩
  ·obtain⟨k,rfl⟩: ∃j,k=j+1:=⟨k-1,by simp at hk;omega⟩
   rw[show(((k+1:Nat):Int)-1).toNat=k by omega]
   refine⟨by omega,by omega,by omega,by omega,fun h=>⟨by omega,by omega,by omega,by omega,?_⟩,fun h=>⟨by constructor<;>omega,Again.intro k ⟨by omega,?_⟩ (by omega) ?_⟩⟩
   ·refine decide_eq_decide.2 ?_
    rw[←cmp3_neg (x:=vl a),h4,cmp3_neg]
    constructor
    ·intro h5;exact word_lt wa (by omega)
    ·intro h5
     simp only[Bool.not_eq_true',beq_eq_false_iff_ne,ne_eq] at h
     rcases Nat.lt_trichotomy (a.getD k 0) (b.getD k 0) with h6|h6|h6
     ·omega
     ·exact absurd (by rw[h6]) h
     ·have:=word_lt wb h6;omega
   ·have h5:a.getD k 0=b.getD k 0:=by simp only[Bool.not_eq_false',beq_iff_eq] at h;omega
    rw[h4,word_eq h5]
   ·simp only[bR,reduceLeDiff,reduceEqDiff,↓reduceIte,reduceCtorEq]
    omega
  ·obtain rfl:k=0:=by simp at hk;omega
   have h5: ¬vl a<vl b:=by rw[←cmp3_neg,h4];simp[cmp3,vl]
   simp[h5]
def estF (v1 v2 u2:Nat):Nat→Nat→Nat
 |0,_=>0
 |d+1,r=>if 4294967296≤d+1∨r*4294967296+u2<(d+1)*v2 then (if 4294967296≤r+v1 then d else estF v1 v2 u2 d (r+v1)) else d+1
theorem estF_hi {v1 v2 u2:Nat}: ∀{d r T:Nat},T=d*v1+r→T<4294967296*v1+4294967296→estF v1 v2 u2 d r<4294967296
 |0,r,T,_,_=>by rw[estF];omega
 |d+1,r,T,h,hT=>by
  rw[estF]
  rw[Nat.succ_mul] at h
  split
  ·split
   ·rename_i h2
    have h3:d*v1<4294967296*v1:=by omega
    exact Nat.lt_of_mul_lt_mul_right h3
   ·exact estF_hi (T:=T) (by omega) hT
  ·omega
theorem estF_lo {v1 v2 u2 q d r T:Nat} (hq:q<4294967296) (h:T=d*v1+r) (hT:q*(v1*4294967296+v2)≤T*4294967296+u2) (hd:q≤d):q≤estF v1 v2 u2 d r:=by
 induction d generalizing r with
 |zero=>rw[estF];exact hd
 |succ d ih=>
  rw[estF]
  rw[Nat.succ_mul] at h
  split
  ·rename_i hc
   have hqd:q≤d:=by
    rcases hc with hc|hc
    ·omega
    ·rcases Nat.lt_or_ge d q with h1|h1
     ·have h2:q=d+1:=by omega
      rw[h2,Nat.mul_add,←Nat.mul_assoc,Nat.succ_mul d v1] at hT
      omega
     ·exact h1
   split
   ·exact hqd
   ·exact ih (by omega) hqd
  ·exact hd
theorem div_le_digit {u v q t t' k:Nat} (h:q*v≤u) (hv:t*k≤v) (hu:u<(t'+1)*k):q*t≤t':=by
 have h1:q*t*k≤q*v:=by rw[Nat.mul_assoc];exact Nat.mul_le_mul_left _ hv
 have h2:q*t*k<(t'+1)*k:=by omega
 have:=Nat.lt_of_mul_lt_mul_right h2
 omega
def topW (u:List Nat) (n:Nat):Nat:=u.getD n 0*4294967296+u.getD (n-1) 0
def est (u v:List Nat):Nat:=estF (v.getD (v.length-1) 0) (v.getD (v.length-2) 0) (u.getD (v.length-2) 0) (topW u v.length/v.getD (v.length-1) 0) (topW u v.length%v.getD (v.length-1) 0)
theorem top2 {v:List Nat} {m:Nat} (h:v.length=m+2):vl v=vl (v.take m)+4294967296^m*(v.getD m 0+4294967296*v.getD (m+1) 0):=by
 have h1:=vl_take_succ v m
 have h2:=vl_take_succ v (m+1)
 rw[show m+1+1=v.length by omega,List.take_length,Nat.pow_succ,Nat.mul_assoc] at h2
 rw[h2,h1,Nat.mul_add,Nat.add_assoc]
theorem top_bound {B K U V a b u0 u1 u2 v1 v2:Nat} (e2:U=a+K*(u2+B*(u1+B*u0))) (e1:V=b+K*(v2+B*v1)) (l1:b<K) (b1:v2<B) (h:U<B*V):u1+B*u0<B*(v1+1):=by
 have h5:K*B*(u1+B*u0)≤U:=by
  rw[e2,Nat.mul_assoc]
  exact Nat.le_trans (Nat.mul_le_mul_left K (Nat.le_add_left _ _)) (Nat.le_add_left _ _)
 have h6:V<K*B*(v1+1):=by
  have h7:K*(v2+B*v1+1)≤K*(B*(v1+1)):=Nat.mul_le_mul_left K (by rw[Nat.mul_succ B];omega)
  rw[Nat.mul_succ] at h7
  rw[e1,Nat.mul_assoc]
  omega
 have h8:K*B*(u1+B*u0)<K*B*(B*(v1+1)):=by
  have h9:B*V<B*(K*B*(v1+1)):=(Nat.mul_lt_mul_left (by omega)).2 h6
  rw[Nat.mul_left_comm (K*B) B]
  omega
 exact Nat.lt_of_mul_lt_mul_left h8
theorem est_facts {u v:List Nat} {m:Nat} (hv:v.length=m+2) (hu:u.length=m+3) (wu:W32 u) (wv:W32 v) (hlt:vl u<4294967296*vl v) (htop:2147483648≤v.getD (m+1) 0):
  vl u/vl v<4294967296∧vl u/vl v*(v.getD (m+1) 0*4294967296+v.getD m 0)≤(u.getD (m+2) 0*4294967296+u.getD (m+1) 0)*4294967296+u.getD m 0∧vl u/vl v≤(u.getD (m+2) 0*4294967296+u.getD (m+1) 0)/v.getD (m+1) 0∧u.getD (m+2) 0*4294967296+u.getD (m+1) 0<4294967296*v.getD (m+1) 0+4294967296:=by
 have e1:=top2 hv
 have e2:vl u=vl (u.take m)+4294967296^m*(u.getD m 0+4294967296*(u.getD (m+1) 0+4294967296*u.getD (m+2) 0)):=by
  have h1:=vl_take_succ u m
  have h2:=vl_take_succ u (m+1)
  have h3:=vl_take_succ u (m+2)
  rw[show m+2+1=u.length by omega,List.take_length,Nat.pow_succ,Nat.pow_succ,Nat.mul_assoc,Nat.mul_assoc] at h3
  rw[Nat.pow_succ,Nat.mul_assoc] at h2
  rw[h3,h2,h1]
  simp only[Nat.mul_add]
  omega
 have l1:=vl_take_lt wv m
 have l2:=vl_take_lt wu m
 have b1:=wv.get m
 have b2:=wu.get m
 have b3:=wu.get (m+1)
 generalize v.getD (m+1) 0=v1 at *
 generalize v.getD m 0=v2 at *
 generalize u.getD (m+2) 0=u0 at *
 generalize u.getD (m+1) 0=u1 at *
 generalize u.getD m 0=u2 at *
 have hvp:0<vl v:=by omega
 have hq:vl u/vl v<4294967296:=Nat.div_lt_of_lt_mul (by rw[Nat.mul_comm];exact hlt)
 have hqv:vl u/vl v*vl v≤vl u:=Nat.div_mul_le_self _ _
 generalize vl u/vl v=q at *
 have hK:(v1*4294967296+v2)*4294967296^m≤vl v:=by
  rw[e1,Nat.mul_comm,show v1*4294967296+v2=v2+4294967296*v1 by omega];omega
 have hU:vl u<((u0*4294967296+u1)*4294967296+u2+1)*4294967296^m:=by
  rw[e2,Nat.mul_comm _ (4294967296^m),show(u0*4294967296+u1)*4294967296+u2+1=(u2+4294967296*(u1+4294967296*u0))+1 by omega,Nat.mul_succ]
  omega
 have hA:=div_le_digit hqv hK hU
 have hB:q*v1≤u0*4294967296+u1:=by
  rw[Nat.mul_add,←Nat.mul_assoc] at hA
  omega
 refine⟨hq,hA,(Nat.le_div_iff_mul_le (by omega)).2 hB,?_⟩
 have h9:=top_bound e2 e1 l1 b1 hlt
 clear hA hB hK hU e1 e2
 omega
theorem est_ok {u v:List Nat} {m:Nat} (hv:v.length=m+2) (hu:u.length=m+3) (wu:W32 u) (wv:W32 v) (hlt:vl u<4294967296*vl v) (htop:2147483648≤v.getD (m+1) 0):vl u/vl v≤est u v∧est u v<4294967296:=by
 obtain⟨h1,h2,h3,h4⟩:=est_facts hv hu wu wv hlt htop
 unfold est topW
 rw[hv,show m+2-1=m+1 by omega,show m+2-2=m by omega]
 have hT:=(Nat.div_add_mod' (u.getD (m+2) 0*4294967296+u.getD (m+1) 0) (v.getD (m+1) 0)).symm
 exact⟨estF_lo h1 hT h2 h3,estF_hi hT h4⟩
theorem estimate_fn (J:Inv) (u v:List Nat) (m:Nat) (hm:m≤67108864) (hv:v.length=m+2) (hu:u.length=m+3) (wu:W32 u) (wv:W32 v) (hlt:vl u<4294967296*vl v) (htop:2147483648≤v.getD (m+1) 0):Fn Tryz.prog J 283 false [wV u,wV v] (.val (.int .u64 (est u v:Nat))):=by
 refine fnI Tryz.func283 rfl (by kernel_rfl) rfl (S0_ok J) ?_
 unfold Tryz.f283
 obtain⟨h1,h2,h3,h4⟩:=est_facts hv hu wu wv hlt htop
 have t1:(((m+2:Nat):Int)).toNat=m+2:=by omega
 have t2:(((m+2:Nat):Int)-1).toNat=m+1:=by omega
 have t3:(((m+2:Nat):Int)-2).toNat=m:=by omega
 simp only[bR,reduceLeDiff,reduceEqDiff,reduceLT,reduceAdd,↓reduceIte,reduceCtorEq,reduceToNat,reducePow,S0,wV,hv,hu,t1,t2]
 have b0:=wu.get (m+2)
 have b1:=wu.get (m+1)
 have b2:=wu.get m
 have c1:=wv.get (m+1)
 have c2:=wv.get m
 have hest:est u v=estF (v.getD (m+1) 0) (v.getD m 0) (u.getD m 0) ((u.getD (m+2) 0*4294967296+u.getD (m+1) 0)/v.getD (m+1) 0) ((u.getD (m+2) 0*4294967296+u.getD (m+1) 0)%v.getD (m+1) 0):=by
  unfold est topW
  rw[hv];rfl
 have eT:bt .or .u64 (wr .u64 (wr .u64 (u.getD (m+2) 0:Nat)*4294967296)) (wr .u64 (u.getD (m+1) 0:Nat))=((u.getD (m+2) 0*4294967296+u.getD (m+1) 0:Nat):Int):=by
  rw[wr64n (by omega),wr64n (show u.getD (m+1) 0<18446744073709551616 by omega),show((u.getD (m+2) 0:Nat):Int)*4294967296=((2^32*u.getD (m+2) 0:Nat):Int) by omega,wr64n (by omega),bt_eq,bits_or64 (by omega) (by omega),Nat.or_comm,or_add (by omega)]
  omega
 have eV:wr .u64 (v.getD (m+1) 0:Nat)=((v.getD (m+1) 0:Nat):Int):=wr64n (by omega)
 rw[eT,eV,hest]
 refine⟨by omega,by omega,by omega,by constructor<;>omega,by omega,by omega,by constructor<;>omega,by omega,by omega,by omega,by omega,by constructor<;>omega,by omega,by omega,by omega,by omega,?_⟩
 have hr0:(u.getD (m+2) 0*4294967296+u.getD (m+1) 0)%v.getD (m+1) 0<v.getD (m+1) 0:=Nat.mod_lt _ (by omega)
 have hT:=(Nat.div_add_mod' (u.getD (m+2) 0*4294967296+u.getD (m+1) 0) (v.getD (m+1) 0))
 have hd0:(u.getD (m+2) 0*4294967296+u.getD (m+1) 0)/v.getD (m+1) 0≤4294967297:=by
  refine Nat.le_of_lt_succ (Nat.div_lt_of_lt_mul ?_)
  rw[Nat.mul_comm]
  omega
 simp only[←Int.natCast_ediv,←Int.natCast_emod]
 generalize (u.getD (m+2) 0*4294967296+u.getD (m+1) 0)/v.getD (m+1) 0=d0 at *
 generalize (u.getD (m+2) 0*4294967296+u.getD (m+1) 0)%v.getD (m+1) 0=r0 at *
 generalize hE:estF (v.getD (m+1) 0) (v.getD m 0) (u.getD m 0) d0 r0=E at *
 clear h1 h2 h3 hest eT eV
 refine LoopC.intro (α:=Nat×Nat) (fun p=>p.2<4294967296∧p.1≤4294967297∧estF (v.getD (m+1) 0) (v.getD m 0) (u.getD m 0) p.1 p.2=E) (fun p=>⟨[(0,wV u),(1,wV v),(5, .i (m+2:Nat)),(7, .val (.int .u64 p.1)),(8, .val (.int .u64 p.2))],[],0⟩) (fun p=>p.1) (d0,r0) ⟨by simp only;omega,hd0,hE⟩ ?_ ?_
 ·simp only[bR,reduceLeDiff,reduceEqDiff,↓reduceIte,reduceCtorEq,wV]
  rw[wr64n (by omega)]
 ·rintro⟨d,r⟩ ⟨g1,g2,g3⟩
  simp only at g1 g2 g3
  simp only[bR,reduceLeDiff,reduceEqDiff,reduceLT,↓reduceIte,reduceCtorEq,reduceToNat,reducePow,wV,hv,hu,t2,t3]
  have hdv:d*v.getD m 0<18446744073709551616:=by
   have:=Nat.mul_le_mul g2 (show v.getD m 0≤4294967295 by omega)
   omega
  have e1:bt .or .u64 (wr .u64 ((r:Int)*4294967296)) (wr .u64 (u.getD m 0:Nat))=((r*4294967296+u.getD m 0:Nat):Int):=by
   rw[wr64n (show u.getD m 0<18446744073709551616 by omega),show(r:Int)*4294967296=((2^32*r:Nat):Int) by omega,wr64n (by omega),bt_eq,bits_or64 (by omega) (by omega),Nat.or_comm,or_add (by omega)]
   omega
  have e2:wr .u64 ((d:Int)*wr .u64 (v.getD m 0:Nat))=((d*v.getD m 0:Nat):Int):=by
   rw[wr64n (show v.getD m 0<18446744073709551616 by omega),←Int.natCast_mul,wr64n hdv]
  have e3:wr .u64 ((r:Int)+wr .u64 (v.getD (m+1) 0:Nat))=((r+v.getD (m+1) 0:Nat):Int):=by
   rw[wr64n (show v.getD (m+1) 0<18446744073709551616 by omega),←Int.natCast_add,wr64n (by omega)]
  rw[e1,e2,e3]
  refine⟨fun _=>by constructor<;>omega,fun _=>by omega,fun _=>by omega,fun _=>by omega,fun _=>by constructor<;>omega,fun _=>by omega,fun _=>by omega,fun hb=> ?_,fun hb=> ?_⟩
  ·have hc:4294967296≤d∨r*4294967296+u.getD m 0<d*v.getD m 0:=by
    simp only[Bool.or_eq_true,decide_eq_true_eq] at hb
    rcases hb with hb|hb
    ·exact .inl (by omega)
    ·exact .inr (Int.ofNat_lt.1 hb)
   obtain⟨d,rfl⟩: ∃k,d=k+1:=by
    cases d with
    |zero=>rw[Nat.zero_mul] at hc;omega
    |succ k=>exact⟨k,rfl⟩
   rw[estF,if_pos hc] at g3
   have e4:wr .u64 (((d+1:Nat):Int)-1)=(d:Nat):=by rw[show((d+1:Nat):Int)-1=(d:Nat) by omega,wr64n (by omega)]
   refine⟨by constructor<;>omega,by omega,by omega,fun hk=> ?_,fun hk=> ?_⟩
   ·rw[if_pos (by have:=of_decide_eq_true hk;omega)] at g3
    rw[e4,g3]
   ·have hk: ¬4294967296≤r+v.getD (m+1) 0:=by have:=of_decide_eq_false hk;omega
    rw[if_neg hk] at g3
    refine Again.intro (d,r+v.getD (m+1) 0) ⟨by simp only;omega,by simp only;omega,g3⟩ (by simp only;omega) ?_
    simp only[bR,reduceLeDiff,reduceEqDiff,↓reduceIte,reduceCtorEq]
    rw[e4]
  ·have hc: ¬(4294967296≤d∨r*4294967296+u.getD m 0<d*v.getD m 0):=by
    simp only[Bool.or_eq_false_iff,decide_eq_false_iff_not] at hb
    rintro(h|h)
    ·exact hb.1 (by omega)
    ·exact hb.2 (Int.ofNat_lt.2 h)
   cases d with
   |zero=>rw[estF] at g3;rw[←g3]
   |succ d=>rw[estF,if_neg hc] at g3;rw[←g3]
def cyM (x:List Nat) (d i:Nat):Nat:=vl (x.take i)*d/4294967296^i
theorem cyM_le {x:List Nat} (h:W32 x) (d i:Nat):cyM x d i≤d:=by
 unfold cyM
 have h1:=vl_take_lt h i
 refine Nat.div_le_of_le_mul ?_
 exact Nat.mul_le_mul_right _ (Nat.le_of_lt h1)
theorem mulW_sum (x:List Nat) (d i:Nat):vl (x.take (i+1))*d/4294967296^i=cyM x d i+x.getD i 0*d:=by
 unfold cyM
 rw[vl_take_succ,Nat.add_mul,Nat.mul_assoc,Nat.add_mul_div_left _ _ (Nat.pow_pos (by omega))]
theorem cyM_succ (x:List Nat) (d i:Nat):cyM x d (i+1)=(cyM x d i+x.getD i 0*d)/4294967296:=by
 rw[←mulW_sum,Nat.div_div_eq_div_mul,←Nat.pow_succ];rfl
theorem mulW_word (x:List Nat) (d i:Nat):fw i (vl (x.take i)*d)++[(cyM x d i+x.getD i 0*d)%4294967296]=fw (i+1) (vl (x.take (i+1))*d):=by
 rw[fw_succ,mulW_sum]
 congr 1
 rw[vl_take_succ,Nat.add_mul,Nat.mul_assoc,fw_add]
theorem mulW_fin {x:List Nat} {d:Nat} (h:W32 x) (hd:d<4294967296):fw x.length (vl x*d)++[cyM x d x.length]=fw (x.length+1) (vl x*d):=by
 have h1:=cyM_le h d x.length
 rw[fw_succ]
 unfold cyM at *
 rw[List.take_length] at *
 rw[Nat.mod_eq_of_lt (by omega)]
theorem fw_take: ∀n m v,m≤n→(fw n v).take m=fw m v
 |_,0,_,_=>by rw[List.take_zero,fw]
 |n+1,m+1,v,h=>by rw[fw,fw,List.take_succ_cons,fw_take n m _ (by omega)]
theorem vl_putS {l o:List Nat} {a:Nat} (h:a+o.length≤l.length):vl (putS l a o)=vl (l.take a)+4294967296^a*(vl o+4294967296^o.length*vl (l.drop (a+o.length))):=by
 unfold putS
 rw[List.append_assoc,vl_app,vl_app,List.length_take,Nat.min_eq_left (by omega)]
theorem vl_seg (l:List Nat) (a n:Nat):vl l=vl (l.take a)+4294967296^a*(vl (seg l a n)+4294967296^n*vl (l.drop (a+n))):=by
 have h1:=vl_split l a
 have h2:=vl_split (l.drop a) n
 rw[List.drop_drop] at h2
 rw[h1,h2]
 rfl
structure LongI (U V n:Nat) (L Q:List Nat) (lx lq k:Nat):Prop where
 len:L.length=lx
 w:W32 L
 qlen:Q.length+k=lq
 qw:W32 Q
 eq:vl L+4294967296^k*(vl Q*V)=U
 lt:vl L<4294967296^k*V
 fit:k+n≤lx
theorem LongI.sg {U V n lx lq j:Nat} {L Q:List Nat} (h:LongI U V n L Q lx lq (j+1)) (hV:V<4294967296^n):j+(n+1)≤L.length∧vl (seg L j (n+1))<4294967296*V∧vl (L.drop (j+(n+1)))=0:=by
 have h0:j+(n+1)≤L.length:=by rw[h.len];have:=h.fit;omega
 have h1:=vl_seg L j (n+1)
 have h2:=h.lt
 rw[Nat.pow_succ,Nat.mul_assoc] at h2
 have h3:4294967296^j*(vl (seg L j (n+1))+4294967296^(n+1)*vl (L.drop (j+(n+1))))<4294967296^j*(4294967296*V):=by omega
 have h4:=Nat.lt_of_mul_lt_mul_left h3
 have h5:vl (L.drop (j+(n+1)))=0:=by
  rcases Nat.eq_zero_or_pos (vl (L.drop (j+(n+1)))) with h6|h6
  ·exact h6
  ·exfalso
   have h7:4294967296*V<4294967296^(n+1):=by rw[Nat.pow_succ];omega
   have h8:4294967296^(n+1)*1≤4294967296^(n+1)*vl (L.drop (j+(n+1))):=Nat.mul_le_mul_left _ h6
   omega
 rw[h5,Nat.mul_zero,Nat.add_zero] at h4
 exact⟨h0,h4,h5⟩
theorem long_arith {A P S r d V:Nat} (h:S=d*V+r):A+P*S=(A+P*r)+P*(d*V):=by
 rw[h,Nat.mul_add];omega
theorem LongI.step {U V n lx lq j:Nat} {L Q:List Nat} (h:LongI U V n L Q lx lq (j+1)) (hV:V<4294967296^n) (hV0:0<V) (y:List Nat) (hy:vl y=vl (seg L j (n+1))/V*V):
  LongI U V n (taken L j (n+1) y) (vl (seg L j (n+1))/V::Q) lx lq j:=by
 obtain⟨h0,h1,h2⟩:=h.sg hV
 have hs:=vl_seg L j (n+1)
 have hdm:=Nat.div_add_mod' (vl (seg L j (n+1))) V
 have hrem:=Nat.mod_lt (vl (seg L j (n+1))) hV0
 have hq:vl (seg L j (n+1))/V<4294967296:=Nat.div_lt_of_lt_mul (by rw[Nat.mul_comm];exact h1)
 have hsl:vl (seg L j (n+1))<4294967296^(n+1):=by rw[Nat.pow_succ];omega
 generalize hS:vl (seg L j (n+1))=S at *
 generalize hD:S/V=D at *
 generalize hR:S%V=R at *
 have hfw:vl (fw (n+1) (S+4294967296^(n+1)-vl y))=R:=by
  rw[fw_vl,hy,show S+4294967296^(n+1)-D*V=R+4294967296^(n+1) by omega,Nat.add_mod_right,Nat.mod_eq_of_lt (by omega)]
 have htk:vl (taken L j (n+1) y)=vl (L.take j)+4294967296^j*R:=by
  unfold taken
  rw[hS,vl_putS (by rw[fw_len];exact h0),fw_len,hfw,h2,Nat.mul_zero,Nat.add_zero]
 have hlow:=vl_take_lt h.w j
 refine⟨by unfold taken;rw[putS_len (by rw[fw_len];exact h0)];exact h.len,putS_w h.w (fw_w _ _) _,by rw[List.length_cons];have:=h.qlen;omega,fun z hz=> ?_,?_,?_,by have:=h.fit;omega⟩
 ·rcases List.mem_cons.1 hz with rfl|hz
  ·exact hq
  ·exact h.qw z hz
 ·rw[htk,vl]
  have he:=h.eq
  rw[hs,h2,Nat.mul_zero,Nat.add_zero,Nat.pow_succ,Nat.mul_assoc] at he
  rw[←he,Nat.add_mul,Nat.mul_add,Nat.mul_assoc 4294967296,long_arith hdm.symm]
  omega
 ·rw[htk]
  have h7:=Nat.mul_le_mul_left (4294967296^j) (show R+1≤V from hrem)
  rw[Nat.mul_succ] at h7
  omega
theorem LongI.fin {U V n lx lq:Nat} {L Q:List Nat} (h:LongI U V n L Q lx lq 0):Q=fw lq (U/V)∧vl L=U%V:=by
 have h1:=h.eq
 have h2:=h.lt
 rw[Nat.pow_zero,Nat.one_mul] at h1 h2
 have e1:U/V=vl Q:=by
  rw[←h1,Nat.mul_comm,Nat.add_mul_div_left _ _ (by omega),Nat.div_eq_of_lt h2,Nat.zero_add]
 have e2:U%V=vl L:=by rw[←h1,Nat.mul_comm,Nat.add_mul_mod_self_left,Nat.mod_eq_of_lt h2]
 refine⟨?_,e2.symm⟩
 have h3:=h.qlen
 have:=fw_of (vl Q) h.qw (Nat.mod_eq_of_lt (vl_lt h.qw)).symm
 rw[e1,←h3,Nat.add_zero]
 exact this
theorem long_norm {y:List Nat} {m:Nat} (wy:W32 y) (hy:y.length=m+2) (htop:y.getD (m+1) 0≠0): ∃s:Nat,s<32∧(32-(bl (y.getD (m+1) 0):Int))=(s:Int)∧vl y*2^s<4294967296^(m+2)∧2147483648*4294967296^(m+1)≤vl y*2^s:=by
 have hb:=wy.get (m+1)
 have h1:bl (y.getD (m+1) 0)≤32:=bl_le_iff.2 (by omega)
 have h2:bl (y.getD (m+1) 0)≠0:=fun h=>htop (bl_eq_zero.1 h)
 have h3:=bl_lt (y.getD (m+1) 0)
 have h4:=bl_le htop
 have e:=vl_take_succ y (m+1)
 rw[show m+1+1=y.length by omega,List.take_length] at e
 have hl:=vl_take_lt wy (m+1)
 generalize y.getD (m+1) 0=t at *
 obtain⟨b,hbl⟩: ∃b,bl t=b+1:=⟨bl t-1,by omega⟩
 rw[hbl] at h1 h3 h4
 rw[Nat.add_sub_cancel] at h4
 have hp31:2^b*2^(31-b)=2147483648:=by rw[←Nat.pow_add,show b+(31-b)=31 by omega]
 have hp32:2^(b+1)*2^(31-b)=4294967296:=by rw[←Nat.pow_add,show b+1+(31-b)=32 by omega]
 refine⟨31-b,by omega,by omega,?_,?_⟩
 ·have h5:vl y<4294967296^(m+1)*2^(b+1):=by
   have:=Nat.mul_le_mul_left (4294967296^(m+1)) (show t+1≤2^(b+1) from h3)
   rw[Nat.mul_succ] at this
   omega
  have h6:=(Nat.mul_lt_mul_right (Nat.pow_pos (show 0<2 by omega) (n:=31-b))).2 h5
  rwa [Nat.mul_assoc,hp32,←Nat.pow_succ] at h6
 ·have h5:4294967296^(m+1)*2^b≤vl y:=by
   have:=Nat.mul_le_mul_left (4294967296^(m+1)) h4
   omega
  have h6:=Nat.mul_le_mul_right (2^(31-b)) h5
  rwa [Nat.mul_assoc,hp31,Nat.mul_comm _ 2147483648] at h6
theorem long_init {x:List Nat} {m s V lx:Nat} (wx:W32 x) (hlx:x.length=lx) (hm:m+2≤lx) (hs:s<32) (hV:2147483648*4294967296^(m+1)≤V):
  LongI (vl x*2^s) V (m+2) (fw (lx+1) (vl x*2^s)) [] (lx+1) (lx-(m+2)+1) (lx-(m+2)+1):=by
 have h1:=vl_lt wx
 rw[hlx] at h1
 have hp:2^s≤2147483648:=Nat.pow_le_pow_right (show 0<2 by omega) (show s≤31 by omega)
 have h2:vl x*2^s<4294967296^lx*2147483648:=Nat.mul_lt_mul_of_lt_of_le h1 hp (by omega)
 have h3:4294967296^(lx-(m+2)+1)*(2147483648*4294967296^(m+1))=4294967296^lx*2147483648:=by
  rw[Nat.mul_left_comm,←Nat.pow_add,show lx-(m+2)+1+(m+1)=lx by omega,Nat.mul_comm]
 have h4:=Nat.mul_le_mul_left (4294967296^(lx-(m+2)+1)) hV
 have h5:vl (fw (lx+1) (vl x*2^s))=vl x*2^s:=by
  rw[fw_vl,Nat.mod_eq_of_lt]
  rw[Nat.pow_succ]
  exact Nat.lt_of_lt_of_le h2 (Nat.mul_le_mul_left _ (by decide))
 refine⟨fw_len _ _,fw_w _ _,by simp,W32.nil,?_,?_,by omega⟩
 ·rw[h5,show vl []=0 from rfl,Nat.zero_mul,Nat.mul_zero,Nat.add_zero]
 ·rw[h5];rw[h3] at h4;exact Nat.lt_of_lt_of_le h2 h4
end Go.Proofs.YtfengpdaocgcnaaGreatDoor
