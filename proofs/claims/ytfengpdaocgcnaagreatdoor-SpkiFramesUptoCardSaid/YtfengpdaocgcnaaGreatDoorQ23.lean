/- Division: the trial digit. Long division, step by step. Plain Lean. Long division. -/
import Derived.Test.YtfengpdaocgcnaaGreatDoorQ22
namespace Go.Proofs.YtfengpdaocgcnaaGreatDoor
open Nat (reduceMul reduceLeDiff reduceEqDiff reduceLT reduceAdd reduceSub reduceDiv)
open Int (reduceToNat reducePow)
open Go.RowKit
set_option linter.unusedSimpArgs false
set_option maxRecDepth 100000
theorem estimate_fn (J:Inv) (u v:List Nat) (m:Nat) (hm:m≤67108864) (hv:v.length=m+2) (hu:u.length=m+3) (wu:W32 u) (wv:W32 v) (hlt:vl u<4294967296*vl v) (htop:2147483648≤v.getD (m+1) 0):Fn Tryz.prog J 283 false [wV u,wV v] (.val (.int .u64 (est u v:Nat))):=by
 refine fnI Tryz.func283 rfl (by kernel_rfl) rfl (S0_ok J) ?_
 unfold Tryz.f283
 obtain⟨h1,h2,h3,h4⟩:=est_facts hv hu wu wv hlt htop
 have t1:(((m+2:Nat):Int)).toNat=m+2:=by omega
 have t2:(((m+2:Nat):Int)-1).toNat=m+1:=by omega
 have t3:(((m+2:Nat):Int)-2).toNat=m:=by omega
 simp only[↓bE,bR,reduceMul,reduceLeDiff,reduceEqDiff,reduceLT,reduceAdd,reduceSub,↓reduceIte,reduceCtorEq,reduceToNat,reducePow,Nat.reduceBEq,reduceDiv,S0,S0f,sdf,wV,hv,hu,t1,t2,t3]
 have b0:=wu.get (m+2)
 have b1:=wu.get (m+1)
 have b2:=wu.get m
 have c1:=wv.get (m+1)
 have c2:=wv.get m
 have hest:est u v=estF (v.getD (m+1) 0) (v.getD m 0) (u.getD m 0) ((u.getD (m+2) 0*4294967296+u.getD (m+1) 0)/v.getD (m+1) 0) ((u.getD (m+2) 0*4294967296+u.getD (m+1) 0)%v.getD (m+1) 0):=by
  unfold est topW
  rw[hv];rfl
 have eT:bt .or .u64 (wr .u64 (wr .u64 (u.getD (m+2) 0:Nat)*4294967296)) (wr .u64 (u.getD (m+1) 0:Nat))=((u.getD (m+2) 0*4294967296+u.getD (m+1) 0:Nat):Int):=by
  rw[wr64n (by omega),wr64n (show u.getD (m+1) 0<18446744073709551616 by omega),show((u.getD (m+2) 0:Nat):Int)*4294967296=((2^32*u.getD (m+2) 0:Nat):Int) by omega,wr64n (by omega),bt_eq,bits_or64 (by omega) (by omega),Nat.or_comm,or_add (by omega)]
  omega
 have eV:wr .u64 (v.getD (m+1) 0:Nat)=((v.getD (m+1) 0:Nat):Int):=wr64n (by omega)
 rw[eT,eV,hest]
 refine⟨by omega,by omega,by omega,by constructor<;>omega,by omega,by omega,by constructor<;>omega,by omega,by omega,by omega,by omega,by constructor<;>omega,by omega,by omega,by omega,by omega,?_⟩
 have hr0:(u.getD (m+2) 0*4294967296+u.getD (m+1) 0)%v.getD (m+1) 0<v.getD (m+1) 0:=Nat.mod_lt _ (by omega)
 have hT:=(Nat.div_add_mod' (u.getD (m+2) 0*4294967296+u.getD (m+1) 0) (v.getD (m+1) 0))
 have hd0:(u.getD (m+2) 0*4294967296+u.getD (m+1) 0)/v.getD (m+1) 0≤4294967297:=by
  refine Nat.le_of_lt_succ (Nat.div_lt_of_lt_mul ?_)
  rw[Nat.mul_comm]
  omega
 simp only[←Int.natCast_ediv,←Int.natCast_emod]
 generalize (u.getD (m+2) 0*4294967296+u.getD (m+1) 0)/v.getD (m+1) 0=d0 at *
 generalize (u.getD (m+2) 0*4294967296+u.getD (m+1) 0)%v.getD (m+1) 0=r0 at *
 generalize hE:estF (v.getD (m+1) 0) (v.getD m 0) (u.getD m 0) d0 r0=E at *
 clear h1 h2 h3 hest eT eV
 refine LoopC.intro (α:=Nat×Nat) (fun p=>p.2<4294967296∧p.1≤4294967297∧estF (v.getD (m+1) 0) (v.getD m 0) (u.getD m 0) p.1 p.2=E) (fun p=>⟨[(0,wV u),(1,wV v),(5, .i (m+2:Nat)),(7, .val (.int .u64 p.1)),(8, .val (.int .u64 p.2))],[],0⟩) (fun p=>p.1) (d0,r0) ⟨by simp only;omega,hd0,hE⟩ ?_ ?_
 ·simp only[↓bE,bR,reduceMul,reduceLeDiff,reduceEqDiff,reduceLT,reduceAdd,reduceSub,↓reduceIte,reduceCtorEq,reduceToNat,reducePow,Nat.reduceBEq,reduceDiv,wV]
  rw[wr64n (by omega)]
 ·rintro⟨d,r⟩ ⟨g1,g2,g3⟩
  simp only at g1 g2 g3
  simp only[↓bE,bR,reduceMul,reduceLeDiff,reduceEqDiff,reduceLT,reduceAdd,reduceSub,↓reduceIte,reduceCtorEq,reduceToNat,reducePow,Nat.reduceBEq,reduceDiv,S0,S0f,sdf,wV,hv,hu,t1,t2,t3]
  have hdv:d*v.getD m 0<18446744073709551616:=by
   have:=Nat.mul_le_mul g2 (show v.getD m 0≤4294967295 by omega)
   omega
  have e1:bt .or .u64 (wr .u64 ((r:Int)*4294967296)) (wr .u64 (u.getD m 0:Nat))=((r*4294967296+u.getD m 0:Nat):Int):=by
   rw[wr64n (show u.getD m 0<18446744073709551616 by omega),show(r:Int)*4294967296=((2^32*r:Nat):Int) by omega,wr64n (by omega),bt_eq,bits_or64 (by omega) (by omega),Nat.or_comm,or_add (by omega)]
   omega
  have e2:wr .u64 ((d:Int)*wr .u64 (v.getD m 0:Nat))=((d*v.getD m 0:Nat):Int):=by
   rw[wr64n (show v.getD m 0<18446744073709551616 by omega),←Int.natCast_mul,wr64n hdv]
  have e3:wr .u64 ((r:Int)+wr .u64 (v.getD (m+1) 0:Nat))=((r+v.getD (m+1) 0:Nat):Int):=by
   rw[wr64n (show v.getD (m+1) 0<18446744073709551616 by omega),←Int.natCast_add,wr64n (by omega)]
  rw[e1,e2,e3]
  refine⟨fun _=>by constructor<;>omega,fun _=>by omega,fun _=>by omega,fun _=>by omega,fun _=>by constructor<;>omega,fun _=>by omega,fun _=>by omega,fun hb=> ?_,fun hb=> ?_⟩
  ·have hc:4294967296≤d∨r*4294967296+u.getD m 0<d*v.getD m 0:=by
    simp only[Bool.or_eq_true,decide_eq_true_eq] at hb
    rcases hb with hb|hb
    ·exact .inl (by omega)
    ·exact .inr (Int.ofNat_lt.1 hb)
   obtain⟨d,rfl⟩: ∃k,d=k+1:=by
    cases d with
    |zero=>rw[Nat.zero_mul] at hc;omega
    |succ k=>exact⟨k,rfl⟩
   rw[estF,if_pos hc] at g3
   have e4:wr .u64 (((d+1:Nat):Int)-1)=(d:Nat):=by rw[show((d+1:Nat):Int)-1=(d:Nat) by omega,wr64n (by omega)]
   refine⟨by constructor<;>omega,by omega,by omega,fun hk=> ?_,fun hk=> ?_⟩
   ·rw[if_pos (by have:=of_decide_eq_true hk;omega)] at g3
    rw[e4,g3]
   ·have hk: ¬4294967296≤r+v.getD (m+1) 0:=by have:=of_decide_eq_false hk;omega
    rw[if_neg hk] at g3
    refine Again.intro (d,r+v.getD (m+1) 0) ⟨by simp only;omega,by simp only;omega,g3⟩ (by simp only;omega) ?_
    simp only[↓bE,bR,reduceMul,reduceLeDiff,reduceEqDiff,reduceLT,reduceAdd,reduceSub,↓reduceIte,reduceCtorEq,reduceToNat,reducePow,Nat.reduceBEq,reduceDiv,wV]
    rw[e4]
  ·have hc: ¬(4294967296≤d∨r*4294967296+u.getD m 0<d*v.getD m 0):=by
    simp only[Bool.or_eq_false_iff,decide_eq_false_iff_not] at hb
    rintro(h|h)
    ·exact hb.1 (by omega)
    ·exact hb.2 (Int.ofNat_lt.2 h)
   cases d with
   |zero=>rw[estF] at g3;rw[←g3]
   |succ d=>rw[estF,if_neg hc] at g3;rw[←g3]
def cyM (x:List Nat) (d i:Nat):Nat:=vl (x.take i)*d/4294967296^i
theorem cyM_le {x:List Nat} (h:W32 x) (d i:Nat):cyM x d i≤d:=by
 unfold cyM
 have h1:=vl_take_lt h i
 refine Nat.div_le_of_le_mul ?_
 exact Nat.mul_le_mul_right _ (Nat.le_of_lt h1)
theorem mulW_sum (x:List Nat) (d i:Nat):vl (x.take (i+1))*d/4294967296^i=cyM x d i+x.getD i 0*d:=by
 unfold cyM
 rw[vl_take_succ,Nat.add_mul,Nat.mul_assoc,Nat.add_mul_div_left _ _ (Nat.pow_pos (by omega))]
theorem cyM_succ (x:List Nat) (d i:Nat):cyM x d (i+1)=(cyM x d i+x.getD i 0*d)/4294967296:=by
 rw[←mulW_sum,Nat.div_div_eq_div_mul,←Nat.pow_succ];rfl
theorem mulW_word (x:List Nat) (d i:Nat):fw i (vl (x.take i)*d)++[(cyM x d i+x.getD i 0*d)%4294967296]=fw (i+1) (vl (x.take (i+1))*d):=by
 rw[fw_succ,mulW_sum]
 congr 1
 rw[vl_take_succ,Nat.add_mul,Nat.mul_assoc,fw_add]
theorem mulW_fin {x:List Nat} {d:Nat} (h:W32 x) (hd:d<4294967296):fw x.length (vl x*d)++[cyM x d x.length]=fw (x.length+1) (vl x*d):=by
 have h1:=cyM_le h d x.length
 rw[fw_succ]
 unfold cyM at *
 rw[List.take_length] at *
 rw[Nat.mod_eq_of_lt (by omega)]
theorem fw_take: ∀n m v,m≤n→(fw n v).take m=fw m v
 |_,0,_,_=>by rw[List.take_zero,fw]
 |n+1,m+1,v,h=>by rw[fw,fw,List.take_succ_cons,fw_take n m _ (by omega)]
theorem vl_putS {l o:List Nat} {a:Nat} (h:a+o.length≤l.length):vl (putS l a o)=vl (l.take a)+4294967296^a*(vl o+4294967296^o.length*vl (l.drop (a+o.length))):=by
 unfold putS
 rw[List.append_assoc,vl_app,vl_app,List.length_take,Nat.min_eq_left (by omega)]
theorem vl_seg (l:List Nat) (a n:Nat):vl l=vl (l.take a)+4294967296^a*(vl (seg l a n)+4294967296^n*vl (l.drop (a+n))):=by
 have h1:=vl_split l a
 have h2:=vl_split (l.drop a) n
 rw[List.drop_drop] at h2
 rw[h1,h2]
 rfl
structure LongI (U V n:Nat) (L Q:List Nat) (lx lq k:Nat):Prop where
 len:L.length=lx
 w:W32 L
 qlen:Q.length+k=lq
 qw:W32 Q
 eq:vl L+4294967296^k*(vl Q*V)=U
 lt:vl L<4294967296^k*V
 fit:k+n≤lx
theorem LongI.sg {U V n lx lq j:Nat} {L Q:List Nat} (h:LongI U V n L Q lx lq (j+1)) (hV:V<4294967296^n):j+(n+1)≤L.length∧vl (seg L j (n+1))<4294967296*V∧vl (L.drop (j+(n+1)))=0:=by
 have h0:j+(n+1)≤L.length:=by rw[h.len];have:=h.fit;omega
 have h1:=vl_seg L j (n+1)
 have h2:=h.lt
 rw[Nat.pow_succ,Nat.mul_assoc] at h2
 have h3:4294967296^j*(vl (seg L j (n+1))+4294967296^(n+1)*vl (L.drop (j+(n+1))))<4294967296^j*(4294967296*V):=by omega
 have h4:=Nat.lt_of_mul_lt_mul_left h3
 have h5:vl (L.drop (j+(n+1)))=0:=by
  rcases Nat.eq_zero_or_pos (vl (L.drop (j+(n+1)))) with h6|h6
  ·exact h6
  ·exfalso
   have h7:4294967296*V<4294967296^(n+1):=by rw[Nat.pow_succ];omega
   have h8:4294967296^(n+1)*1≤4294967296^(n+1)*vl (L.drop (j+(n+1))):=Nat.mul_le_mul_left _ h6
   omega
 rw[h5,Nat.mul_zero,Nat.add_zero] at h4
 exact⟨h0,h4,h5⟩
theorem long_arith {A P S r d V:Nat} (h:S=d*V+r):A+P*S=(A+P*r)+P*(d*V):=by
 rw[h,Nat.mul_add];omega
theorem LongI.step {U V n lx lq j:Nat} {L Q:List Nat} (h:LongI U V n L Q lx lq (j+1)) (hV:V<4294967296^n) (hV0:0<V) (y:List Nat) (hy:vl y=vl (seg L j (n+1))/V*V):
  LongI U V n (taken L j (n+1) y) (vl (seg L j (n+1))/V::Q) lx lq j:=by
 obtain⟨h0,h1,h2⟩:=h.sg hV
 have hs:=vl_seg L j (n+1)
 have hdm:=Nat.div_add_mod' (vl (seg L j (n+1))) V
 have hrem:=Nat.mod_lt (vl (seg L j (n+1))) hV0
 have hq:vl (seg L j (n+1))/V<4294967296:=Nat.div_lt_of_lt_mul (by rw[Nat.mul_comm];exact h1)
 have hsl:vl (seg L j (n+1))<4294967296^(n+1):=by rw[Nat.pow_succ];omega
 generalize hS:vl (seg L j (n+1))=S at *
 generalize hD:S/V=D at *
 generalize hR:S%V=R at *
 have hfw:vl (fw (n+1) (S+4294967296^(n+1)-vl y))=R:=by
  rw[fw_vl,hy,show S+4294967296^(n+1)-D*V=R+4294967296^(n+1) by omega,Nat.add_mod_right,Nat.mod_eq_of_lt (by omega)]
 have htk:vl (taken L j (n+1) y)=vl (L.take j)+4294967296^j*R:=by
  unfold taken
  rw[hS,vl_putS (by rw[fw_len];exact h0),fw_len,hfw,h2,Nat.mul_zero,Nat.add_zero]
 have hlow:=vl_take_lt h.w j
 refine⟨by unfold taken;rw[putS_len (by rw[fw_len];exact h0)];exact h.len,putS_w h.w (fw_w _ _) _,by rw[List.length_cons];have:=h.qlen;omega,fun z hz=> ?_,?_,?_,by have:=h.fit;omega⟩
 ·rcases List.mem_cons.1 hz with rfl|hz
  ·exact hq
  ·exact h.qw z hz
 ·rw[htk,vl]
  have he:=h.eq
  rw[hs,h2,Nat.mul_zero,Nat.add_zero,Nat.pow_succ,Nat.mul_assoc] at he
  rw[←he,Nat.add_mul,Nat.mul_add,Nat.mul_assoc 4294967296,long_arith hdm.symm]
  omega
 ·rw[htk]
  have h7:=Nat.mul_le_mul_left (4294967296^j) (show R+1≤V from hrem)
  rw[Nat.mul_succ] at h7
  omega
theorem LongI.fin {U V n lx lq:Nat} {L Q:List Nat} (h:LongI U V n L Q lx lq 0):Q=fw lq (U/V)∧vl L=U%V:=by
 have h1:=h.eq
 have h2:=h.lt
 rw[Nat.pow_zero,Nat.one_mul] at h1 h2
 have e1:U/V=vl Q:=by
  rw[←h1,Nat.mul_comm,Nat.add_mul_div_left _ _ (by omega),Nat.div_eq_of_lt h2,Nat.zero_add]
 have e2:U%V=vl L:=by rw[←h1,Nat.mul_comm,Nat.add_mul_mod_self_left,Nat.mod_eq_of_lt h2]
 refine⟨?_,e2.symm⟩
 have h3:=h.qlen
 have:=fw_of (vl Q) h.qw (Nat.mod_eq_of_lt (vl_lt h.qw)).symm
 rw[e1,←h3,Nat.add_zero]
 exact this
theorem long_norm {y:List Nat} {m:Nat} (wy:W32 y) (hy:y.length=m+2) (htop:y.getD (m+1) 0≠0): ∃s:Nat,s<32∧(32-(bl (y.getD (m+1) 0):Int))=(s:Int)∧vl y*2^s<4294967296^(m+2)∧2147483648*4294967296^(m+1)≤vl y*2^s:=by
 have hb:=wy.get (m+1)
 have h1:bl (y.getD (m+1) 0)≤32:=bl_le_iff.2 (by omega)
 have h2:bl (y.getD (m+1) 0)≠0:=fun h=>htop (bl_eq_zero.1 h)
 have h3:=bl_lt (y.getD (m+1) 0)
 have h4:=bl_le htop
 have e:=vl_take_succ y (m+1)
 rw[show m+1+1=y.length by omega,List.take_length] at e
 have hl:=vl_take_lt wy (m+1)
 generalize y.getD (m+1) 0=t at *
 obtain⟨b,hbl⟩: ∃b,bl t=b+1:=⟨bl t-1,by omega⟩
 rw[hbl] at h1 h3 h4
 rw[Nat.add_sub_cancel] at h4
 have hp31:2^b*2^(31-b)=2147483648:=by rw[←Nat.pow_add,show b+(31-b)=31 by omega]
 have hp32:2^(b+1)*2^(31-b)=4294967296:=by rw[←Nat.pow_add,show b+1+(31-b)=32 by omega]
 refine⟨31-b,by omega,by omega,?_,?_⟩
 ·have h5:vl y<4294967296^(m+1)*2^(b+1):=by
   have:=Nat.mul_le_mul_left (4294967296^(m+1)) (show t+1≤2^(b+1) from h3)
   rw[Nat.mul_succ] at this
   omega
  have h6:=(Nat.mul_lt_mul_right (Nat.pow_pos (show 0<2 by omega) (n:=31-b))).2 h5
  rwa [Nat.mul_assoc,hp32,←Nat.pow_succ] at h6
 ·have h5:4294967296^(m+1)*2^b≤vl y:=by
   have:=Nat.mul_le_mul_left (4294967296^(m+1)) h4
   omega
  have h6:=Nat.mul_le_mul_right (2^(31-b)) h5
  rwa [Nat.mul_assoc,hp31,Nat.mul_comm _ 2147483648] at h6
theorem long_init {x:List Nat} {m s V lx:Nat} (wx:W32 x) (hlx:x.length=lx) (hm:m+2≤lx) (hs:s<32) (hV:2147483648*4294967296^(m+1)≤V):
  LongI (vl x*2^s) V (m+2) (fw (lx+1) (vl x*2^s)) [] (lx+1) (lx-(m+2)+1) (lx-(m+2)+1):=by
 have h1:=vl_lt wx
 rw[hlx] at h1
 have hp:2^s≤2147483648:=Nat.pow_le_pow_right (show 0<2 by omega) (show s≤31 by omega)
 have h2:vl x*2^s<4294967296^lx*2147483648:=Nat.mul_lt_mul_of_lt_of_le h1 hp (by omega)
 have h3:4294967296^(lx-(m+2)+1)*(2147483648*4294967296^(m+1))=4294967296^lx*2147483648:=by
  rw[Nat.mul_left_comm,←Nat.pow_add,show lx-(m+2)+1+(m+1)=lx by omega,Nat.mul_comm]
 have h4:=Nat.mul_le_mul_left (4294967296^(lx-(m+2)+1)) hV
 have h5:vl (fw (lx+1) (vl x*2^s))=vl x*2^s:=by
  rw[fw_vl,Nat.mod_eq_of_lt]
  rw[Nat.pow_succ]
  exact Nat.lt_of_lt_of_le h2 (Nat.mul_le_mul_left _ (by decide))
 refine⟨fw_len _ _,fw_w _ _,by simp,W32.nil,?_,?_,by omega⟩
 ·rw[h5,show vl []=0 from rfl,Nat.zero_mul,Nat.mul_zero,Nat.add_zero]
 ·rw[h5];rw[h3] at h4;exact Nat.lt_of_lt_of_le h2 h4
def SGlh:FuncId→List V→List (Nat×Ob)→Nat→Option CallH:=fun f args h nx=>
 if f=210 then SGdh f args h nx
 else if f=282 then match args with
  |[.ro (.r k), .sq 1 dx Lx, .val (.int .i64 s)]=>match Hroot h k with
   |some (.row ty (.sq 1 d L))=>some ⟨[ty=156,d= .val (.int .u32 0),L=wds (unW L),dx= .val (.int .u32 0),Lx=wds (unW Lx),0≤s,s<32,(unW L).length≤1073741824,(unW Lx).length≤(unW L).length,W32 (unW Lx)],[false,true,true],[(k, .row 156 (wV (unW L)))], .tu [],[(k, .row 156 (wV (fw (unW L).length (vl (unW Lx)*2^s.toNat))))],nx⟩
   |_=>none
  |_=>none
 else if f=274 then match args with
  |[.vw (.r k) 1 a n,y]=>match Hroot h k with
   |some (.row ty (.sq 1 d L))=>match (fz h y).1 with
    | .sq 1 dy Ly=>some ⟨[ty=156,d= .val (.int .u32 0),L=wds (unW L),dy= .val (.int .u32 0),Ly=wds (unW Ly),(unW L).length≤1073741824,a+n≤(unW L).length,(unW Ly).length≤n,W32 (unW L),W32 (unW Ly)],[false,true],[(k, .row 156 (wV (unW L)))], .val (.int .u32 (brw (vl (seg (unW L) a n)) (vl (unW Ly)):Nat)),[(k, .row 156 (wV (taken (unW L) a n (unW Ly))))],nx⟩
    |_=>none
   |_=>none
  |_=>none
 else none
def SGlf:FuncId→List V→Option (List Prop×Bool×V):=fun f args=>
 if f=283 then match args with
  |[.sq 1 du Lu, .sq 1 dv Lv]=>some ([du= .val (.int .u32 0),Lu=wds (unW Lu),dv= .val (.int .u32 0),Lv=wds (unW Lv),2≤(unW Lv).length,(unW Lv).length≤67108864,(unW Lu).length=(unW Lv).length+1,W32 (unW Lu),W32 (unW Lv),vl (unW Lu)<4294967296*vl (unW Lv),2147483648≤(unW Lv).getD ((unW Lv).length-1) 0],false, .val (.int .u64 (est (unW Lu) (unW Lv):Nat)))
  |_=>none
 else if f=284 then match args with
  |[.sq 1 du Lu, .sq 1 dv Lv]=>some ([du= .val (.int .u32 0),Lu=wds (unW Lu),dv= .val (.int .u32 0),Lv=wds (unW Lv),(unW Lu).length≤1073741824,(unW Lu).length=(unW Lv).length,W32 (unW Lu),W32 (unW Lv)],false, .bb (decide (vl (unW Lu)<vl (unW Lv))))
  |_=>none
 else SGaf f args
def SGl (J:Inv):Sig:=⟨J,sdf,SGlf,SGlh,0⟩
theorem SGl_ok (J:Inv):SigOk Tryz.prog (SGl J):=by
 refine⟨fun f args l fr r h hl=> ?_,fun f args h nx c hc hl=> ?_⟩
 ·change SGlf f args=some (l,fr,r) at h
  unfold SGlf at h
  split at h
  ·rename_i hf;subst hf
   split at h
   ·obtain⟨rfl,rfl,rfl⟩:=jsome_tri h
    rename_i du Lu dv Lv
    have q1:du= .val (.int .u32 0):=hl _ (by simp)
    have q2:Lu=wds (unW Lu):=hl _ (by simp)
    have q3:dv= .val (.int .u32 0):=hl _ (by simp)
    have q4:Lv=wds (unW Lv):=hl _ (by simp)
    have q5:2≤(unW Lv).length:=hl _ (by simp)
    have q6:(unW Lv).length≤67108864:=hl _ (by simp)
    have q7:(unW Lu).length=(unW Lv).length+1:=hl _ (by simp)
    have q8:2147483648≤(unW Lv).getD ((unW Lv).length-1) 0:=hl _ (by simp)
    subst q1 q3
    have hp:=estimate_fn J (unW Lu) (unW Lv) ((unW Lv).length-2) (by omega) (by omega) (by omega) (hl _ (by simp)) (hl _ (by simp)) (hl _ (by simp)) (by rw[show(unW Lv).length-2+1=(unW Lv).length-1 by omega];exact q8)
    unfold wV at hp
    rw[←q2,←q4] at hp
    exact hp
   ·exact absurd h (by simp)
  ·split at h
   ·rename_i hf;subst hf
    split at h
    ·obtain⟨rfl,rfl,rfl⟩:=jsome_tri h
     rename_i du Lu dv Lv
     have q1:du= .val (.int .u32 0):=hl _ (by simp)
     have q2:Lu=wds (unW Lu):=hl _ (by simp)
     have q3:dv= .val (.int .u32 0):=hl _ (by simp)
     have q4:Lv=wds (unW Lv):=hl _ (by simp)
     subst q1 q3
     have hp:=below_fn J (unW Lu) (unW Lv) (hl _ (by simp)) (hl _ (by simp)) (hl _ (by simp)) (hl _ (by simp))
     unfold wV at hp
     rw[←q2,←q4] at hp
     exact hp
    ·exact absurd h (by simp)
   ·exact(SGa_ok J).1 f args l fr r h hl
 ·change SGlh f args h nx=some c at hc
  unfold SGlh at hc
  split at hc
  ·exact(SGd_ok J).2 f args h nx c hc hl
  ·split at hc
   ·rename_i hf;subst hf
    split at hc
    ·rename_i k dx Lx s
     split at hc
     ·rename_i ty d L hk
      obtain rfl:=Option.some.inj hc
      have q1:ty=156:=hl _ (by simp)
      have q2:d= .val (.int .u32 0):=hl _ (by simp)
      have q3:dx= .val (.int .u32 0):=hl _ (by simp)
      have q4:Lx=wds (unW Lx):=hl _ (by simp)
      have q5:0≤s:=hl _ (by simp)
      have q6:s<32:=hl _ (by simp)
      subst q1 q2 q3
      have hp:=up_fn J k nx (unW L) (unW Lx) s.toNat (by omega) (hl _ (by simp)) (hl _ (by simp)) (hl _ (by simp))
      rw[Int.toNat_of_nonneg q5,show wV (unW Lx)= .sq 1 (.val (.int .u32 0)) Lx by unfold wV;rw[←q4]] at hp
      exact hp
     ·exact absurd hc (by simp)
    ·exact absurd hc (by simp)
   ·split at hc
    ·rename_i hf;subst hf
     split at hc
     ·rename_i k a n y
      split at hc
      ·rename_i ty d L hk
       split at hc
       ·rename_i dy Ly hy
        obtain rfl:=Option.some.inj hc
        have q1:ty=156:=hl _ (by simp)
        have q2:d= .val (.int .u32 0):=hl _ (by simp)
        have q3:dy= .val (.int .u32 0):=hl _ (by simp)
        have q4:Ly=wds (unW Ly):=hl _ (by simp)
        subst q1 q2 q3
        have hp:=take_fn J k nx a n (unW L) (unW Ly) (hl _ (by simp)) (hl _ (by simp)) (hl _ (by simp)) (hl _ (by simp)) (hl _ (by simp))
        rw[show wV (unW Ly)=(fz h y).1 by rw[hy];unfold wV;rw[←q4]] at hp
        exact hp
       ·exact absurd hc (by simp)
      ·exact absurd hc (by simp)
     ·exact absurd hc (by simp)
    ·exact absurd hc (by simp)
set_option maxHeartbeats 4000000 in
theorem long_fn (J:Inv) (x y:List Nat) (m:Nat) (hx:x.length≤33554432) (hy:y.length=m+2) (hxy:y.length≤x.length) (wx:W32 x) (wy:W32 y) (htop:y.getD (m+1) 0≠0):Fn Tryz.prog J 273 false [wV x,wV y] (.tu [wV (fw (x.length-y.length+1) (vl x/vl y)),wV (fw y.length (vl x%vl y))]):=by
 refine fnI Tryz.func273 rfl (by kernel_rfl) (by simp[V.cl,clL,wV,wds_cl]) (SGl_ok J) ?_
 unfold Tryz.f273
 obtain⟨s,hs,hsI,hV1,hV2⟩:=long_norm wy hy htop
 have hinit:=long_init (s:=s) wx rfl (by omega) hs hV2
 have b0:=wy.get (m+1)
 have t1:(((m+2:Nat):Int)-1).toNat=m+1:=by omega
 have t2:(((m+2:Nat):Int)).toNat=m+2:=by omega
 have t3:((x.length:Int)+1).toNat=x.length+1:=by omega
 have t4:((x.length:Int)-(m+2:Nat)+1).toNat=x.length-(m+2)+1:=by omega
 have t5:(((m+2:Nat):Int)+1).toNat=m+3:=by omega
 simp only[↓bE,bR,reduceMul,reduceLeDiff,reduceEqDiff,reduceLT,reduceAdd,reduceSub,↓reduceIte,reduceCtorEq,reduceToNat,reducePow,Nat.reduceBEq,reduceDiv,SGa,SGaf,SGl,SGlf,SGlh,SGdh,sdf,wV,hy,t1,t2,t3,t4,t5,hsI,fw_len,List.length_replicate,unW_wds]
 refine⟨by constructor<;>omega,by omega,by omega,by omega,by omega,by omega,by omega,by omega,by omega,by omega,by omega,by omega,wy,by constructor<;>omega,by omega,by omega,by omega,by omega,by omega,by omega,by omega,wx,by constructor<;>omega,by constructor<;>omega,by omega,by omega,by omega,by constructor<;>omega,by omega,by omega,by omega,by constructor<;>omega,?_⟩
 have hdiv:vl x/vl y=vl x*2^s/(vl y*2^s):=(Nat.mul_div_mul_right _ _ (Nat.pow_pos (by omega))).symm
 have hmod:vl x%vl y*2^s=vl x*2^s%(vl y*2^s):=(Nat.mul_mod_mul_right ..).symm
 generalize hV:vl y*2^s=D at *
 generalize hU:vl x*2^s=N at *
 obtain⟨lq,hlq⟩: ∃lq,lq=x.length-(m+2)+1:=⟨_,rfl⟩
 rw[←hlq] at hinit⊢
 refine LoopC.intro (α:=Nat×List Nat×List Nat×List Nat) (fun p=>LongI N D (m+2) p.2.1 p.2.2.1 (x.length+1) lq p.1∧p.2.2.2.length=m+3) (fun p=>⟨[(6, .i s),(7, .ro (.r 0)),(8, .ro (.r 1)),(9, .i (m+2:Nat)),(10, .ro (.r 2)),(11, .ro (.r 3)),(12, .i ((p.1:Int)-1))],[(0, .row 156 (wV (fw (m+2) D))),(1, .row 156 (wV p.2.1)),(2, .row 156 (wV (List.replicate p.1 0++p.2.2.1))),(3, .row 156 (wV p.2.2.2))],4⟩) (fun p=>p.1) (lq,_,[],List.replicate (m+3) 0) ⟨hinit,List.length_replicate⟩ ?_ ?_
 ·simp only[↓bE,bR,reduceMul,reduceLeDiff,reduceEqDiff,reduceLT,reduceAdd,reduceSub,↓reduceIte,reduceCtorEq,reduceToNat,reducePow,Nat.reduceBEq,reduceDiv,wV,List.append_nil]
  rw[fw]
 ·rintro⟨k,L,Q,P⟩ ⟨h1,h2⟩
  have h1:LongI N D (m+2) L Q (x.length+1) lq k:=h1
  simp only at h2
  have e0:=h1.len
  have e1:(List.replicate k 0++Q).length=lq:=by rw[List.length_append,List.length_replicate,Nat.add_comm];exact h1.qlen
  have hD0:0<D:=by
   have:=Nat.pow_pos (show 0<4294967296 by omega) (n:=m+1)
   omega
  cases k with
  |zero=>
   obtain⟨f1,f2⟩:=h1.fin
   simp only[↓bE,bR,reduceMul,reduceLeDiff,reduceEqDiff,reduceLT,reduceAdd,reduceSub,↓reduceIte,reduceCtorEq,reduceToNat,reducePow,Nat.reduceBEq,reduceDiv,SGa,SGaf,SGl,SGlf,SGlh,SGdh,sdf,wV,e0,e1,h2,t1,t2,t3,t4,t5,fw_len,List.length_replicate,unW_wds]
   refine⟨fun h=>by simp at h,fun _=> ?_⟩
   rw[f1,f2,←hmod,Nat.mul_div_cancel _ (Nat.pow_pos (by omega)),←hdiv,fw_take _ _ _ (by omega),List.replicate_zero,List.nil_append]
   refine⟨by omega,by omega,by omega,h1.w,by omega,by omega,rfl,rfl⟩
  |succ j=>
   obtain⟨g1,g2,g3⟩:=h1.sg hV1
   have hws:=seg_w h1.w j (m+3)
   have hls:=seg_len (l:=L) (a:=j) (n:=m+3) g1
   have hvD:vl (fw (m+2) D)=D:=by rw[fw_vl,Nat.mod_eq_of_lt hV1]
   have htD:2147483648≤(fw (m+2) D).getD (m+1) 0:=by
    rw[fw_get _ _ _ (by omega),Nat.mod_eq_of_lt (Nat.div_lt_of_lt_mul (by rw[←Nat.pow_succ];exact hV1))]
    exact(Nat.le_div_iff_mul_le (Nat.pow_pos (by omega))).2 hV2
   have u1:(((j+1:Nat):Int)-1)=(j:Int):=by omega
   have u2:((j:Int)+(m+2:Nat)+1).toNat=j+(m+3):=by omega
   have u3:j+(j+(m+3)-j)-j=m+3:=by omega
   have u4:j+(m+3)-j=m+3:=by omega
   have u5:m+2-1=m+1:=by omega
   have useg: ∀(l:List Nat) a n,List.take n (List.drop a l)=seg l a n:=fun _ _ _=>rfl
   simp only[↓bE,bR,reduceMul,reduceLeDiff,reduceEqDiff,reduceLT,reduceAdd,reduceSub,↓reduceIte,reduceCtorEq,reduceToNat,reducePow,Nat.reduceBEq,reduceDiv,SGa,SGaf,SGl,SGlf,SGlh,SGdh,sdf,wV,e0,e1,h2,t1,t2,t3,t4,t5,u1,u2,u3,u4,u5,useg,hls,hvD,fw_len,List.length_replicate,unW_wds]
   have hfit:=h1.fit
   refine⟨fun _=>⟨by constructor<;>omega,by constructor<;>omega,by omega,by omega,by omega,by omega,hws,fw_w _ _,g2,htD,?_⟩,fun h=>by simp at h⟩
   obtain⟨q1,q2⟩:=est_ok (u:=seg L j (m+3)) (v:=fw (m+2) D) (m:=m) (fw_len _ _) hls hws (fw_w _ _) (by rw[hvD];exact g2) htD
   rw[hvD] at q1
   refine LoopC.intro (α:=Nat×List Nat) (fun p=>vl (seg L j (m+3))/D≤p.1∧p.1<4294967296∧p.2.length=m+3) (fun p=>⟨[(6, .i s),(7, .ro (.r 0)),(8, .ro (.r 1)),(9, .i (m+2:Nat)),(10, .ro (.r 2)),(11, .ro (.r 3)),(12, .i j),(13, .val (.int .u64 p.1))],[(0, .row 156 (wV (fw (m+2) D))),(1, .row 156 (wV L)),(2, .row 156 (wV (List.replicate (j+1) 0++Q))),(3, .row 156 (wV p.2))],4⟩) (fun p=>p.1) (est (seg L j (m+3)) (fw (m+2) D),P) ⟨q1,q2,h2⟩ ?_ ?_
   ·simp only[↓bE,bR,reduceMul,reduceLeDiff,reduceEqDiff,reduceLT,reduceAdd,reduceSub,↓reduceIte,reduceCtorEq,reduceToNat,reducePow,Nat.reduceBEq,reduceDiv,wV,List.append_nil]
   ·rintro⟨d,R⟩ ⟨r1,r2,r3⟩
    simp only at r1 r2 r3
    simp only[↓bE,bR,reduceMul,reduceLeDiff,reduceEqDiff,reduceLT,reduceAdd,reduceSub,↓reduceIte,reduceCtorEq,reduceToNat,reducePow,Nat.reduceBEq,reduceDiv,SGa,SGaf,SGl,SGlf,SGlh,SGdh,sdf,wV,e0,e1,r3,t1,t2,t3,t4,t5,u1,u2,u3,u4,u5,useg,hls,hvD,fw_len,List.length_replicate,unW_wds]
    generalize hvv:fw (m+2) D=vv at *
    have hlv:vv.length=m+2:=by rw[←hvv,fw_len]
    have wv:W32 vv:=by rw[←hvv];exact fw_w _ _
    refine LoopC.intro (α:=Nat) (fun i=>i≤m+2) (fun i=>⟨[(6, .i s),(7, .ro (.r 0)),(8, .ro (.r 1)),(9, .i (m+2:Nat)),(10, .ro (.r 2)),(11, .ro (.r 3)),(12, .i j),(13, .val (.int .u64 d)),(14, .val (.int .u64 (cyM vv d i:Nat))),(66, .ro (.r 0)),(67, .i (m+2:Nat)),(68, .i i)],[(0, .row 156 (wV vv)),(1, .row 156 (wV L)),(2, .row 156 (wV (List.replicate (j+1) 0++Q))),(3, .row 156 (wV (fw i (vl (vv.take i)*d)++R.drop i)))],4⟩) (fun i=>m+2-i) 0 (Nat.zero_le _) ?_ ?_
    ·simp only[↓bE,bR,reduceMul,reduceLeDiff,reduceEqDiff,reduceLT,reduceAdd,reduceSub,↓reduceIte,reduceCtorEq,reduceToNat,reducePow,Nat.reduceBEq,reduceDiv,wV,fw,cyM,List.take_zero]
     rw[show vl []=0 from rfl,Nat.zero_mul,Nat.zero_div]
     exact⟨rfl,rfl⟩
    ·intro i hi0
     obtain⟨p0,p1⟩:=fw_drop_get (v:=vl (vv.take i)*d) (show i≤m+3 by omega) r3
     simp only[↓bE,bR,reduceMul,reduceLeDiff,reduceEqDiff,reduceLT,reduceAdd,reduceSub,↓reduceIte,reduceCtorEq,reduceToNat,reducePow,Nat.reduceBEq,reduceDiv,SGa,SGaf,SGl,SGlf,SGlh,SGdh,sdf,wV,e0,e1,r3,hlv,p0,t1,t2,t3,t4,t5,u1,u2,u3,u4,u5,useg,hls,hvD,fw_len,List.length_replicate,unW_wds]
     have hcy:=cyM_le wv d i
     clear hdiv hmod hinit hU hV hV2 g2 g3 q1 q2 htD b0 hsI htop t1 t2 t3 t4 t5 u2 u3 u4 u5 useg
     have set1: ∀z,i<m+3→(fw i (vl (vv.take i)*d)++R.drop i).set i z=fw i (vl (vv.take i)*d)++z::R.drop (i+1):=fun z hz=>by
      rw[List.set_append_right _ _ (by rw[fw_len];omega),fw_len,Nat.sub_self,List.drop_eq_getElem_cons (by omega),List.set_cons_zero]
     refine⟨fun hi=> ?_,fun hi=> ?_⟩
     ·have hi:i<m+2:=by have:=of_decide_eq_true hi;omega
      have b1:=wv.get i
      have hvd:vv.getD i 0*d≤4294967295*4294967295:=Nat.mul_le_mul (by omega) (by omega)
      have hsum:wr .u64 ((cyM vv d i:Nat)+wr .u64 ((d:Int)*wr .u64 (vv.getD i 0:Nat)))=((cyM vv d i+vv.getD i 0*d:Nat):Int):=by
       rw[wr64n (show vv.getD i 0<18446744073709551616 by omega),←Int.natCast_mul,Nat.mul_comm d,wr64n (by omega),←Int.natCast_add,wr64n (by omega)]
      have hc:=cyM_succ vv d i
      refine⟨by omega,by omega,hi,by omega,by omega,by omega,by omega,by constructor<;>omega,Again.intro (i+1) hi (by omega) ?_⟩
      simp only[↓bE,bR,reduceMul,reduceLeDiff,reduceEqDiff,reduceLT,reduceAdd,reduceSub,↓reduceIte,reduceCtorEq,reduceToNat,reducePow,Nat.reduceBEq,reduceDiv,wV]
      rw[set1 _ (by omega),hsum,w32_nat,←mulW_word,List.append_assoc]
      refine⟨⟨?_,by omega⟩,rfl⟩
      rw[hc];omega
     ·obtain rfl:i=m+2:=by have:=of_decide_eq_false hi;omega
      have hPT:(fw (m+2) (vl (vv.take (m+2))*d)++R.drop (m+2)).set (m+2) (w32 (cyM vv d (m+2):Nat))=fw (m+3) (D*d):=by
       rw[set1 _ (by omega),w32_nat,Nat.mod_eq_of_lt (by omega),List.drop_eq_nil_of_le (by omega)]
       have hf:=mulW_fin wv r2
       rw[hlv,hvD] at hf
       rw[show vv.take (m+2)=vv by rw[←hlv];exact List.take_length,hvD]
       exact hf
      have hPTv:vl (fw (m+3) (D*d))=D*d:=by
       rw[fw_vl,Nat.mod_eq_of_lt]
       rw[Nat.pow_succ]
       exact Nat.mul_lt_mul_of_lt_of_le hV1 (Nat.le_of_lt r2) (by omega)
      simp only[hPT,hPTv,fw_len]
      refine⟨by omega,by omega,by omega,by constructor<;>omega,by constructor<;>omega,by omega,by omega,by omega,by omega,trivial,hws,fw_w _ _,fun hb=> ?_,fun hb=> ?_⟩
      ·have hle:D*d≤vl (seg L j (m+3)):=by simp at hb;omega
       have hdq:d=vl (seg L j (m+3))/D:=Nat.le_antisymm ((Nat.le_div_iff_mul_le hD0).2 (by rw[Nat.mul_comm];exact hle)) r1
       have hst:=h1.step hV1 hD0 (fw (m+3) (D*d)) (by rw[hPTv,Nat.mul_comm,←hdq])
       rw[←hdq] at hst
       refine⟨by constructor<;>omega,by constructor<;>omega,by omega,by omega,by omega,by omega,by omega,by omega,h1.w,fw_w _ _,by omega,by omega,by omega,by constructor<;>omega,Again.intro (j,taken L j (m+3) (fw (m+3) (D*d)),d::Q,fw (m+3) (D*d)) ⟨hst,fw_len _ _⟩ (by simp only;omega) ?_⟩
       simp only[↓bE,bR,reduceMul,reduceLeDiff,reduceEqDiff,reduceLT,reduceAdd,reduceSub,↓reduceIte,reduceCtorEq,reduceToNat,reducePow,Nat.reduceBEq,reduceDiv,wV,hPT]
       rw[w32_nat,Nat.mod_eq_of_lt r2,rep_set]
       skip
      ·have hlt:vl (seg L j (m+3))<D*d:=by simp at hb;omega
       have hq:vl (seg L j (m+3))/D<d:=Nat.div_lt_of_lt_mul hlt
       have hd1:0<d:=Nat.lt_of_le_of_lt (Nat.zero_le _) hq
       obtain⟨d,rfl⟩: ∃e,d=e+1:=⟨d-1,(Nat.sub_add_cancel hd1).symm⟩
       refine Again.intro (d,fw (m+3) (D*(d+1))) ⟨Nat.le_of_lt_succ hq,by simp only;omega,fw_len _ _⟩ (by simp only;omega) ?_
       simp only[↓bE,bR,reduceMul,reduceLeDiff,reduceEqDiff,reduceLT,reduceAdd,reduceSub,↓reduceIte,reduceCtorEq,reduceToNat,reducePow,Nat.reduceBEq,reduceDiv,wV,hPT]
       rw[show((d+1:Nat):Int)-1=(d:Nat) by omega,wr64n (by omega)]
       skip
end Go.Proofs.YtfengpdaocgcnaaGreatDoor
