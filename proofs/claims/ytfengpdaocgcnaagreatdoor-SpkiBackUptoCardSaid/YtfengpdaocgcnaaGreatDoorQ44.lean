/- Numbers as bytes. The base point's key. -/
import Derived.Test.YtfengpdaocgcnaaGreatDoorQ32
import Derived.Test.YtfengpdaocgcnaaGreatDoorQ38
import Derived.Test.YtfengpdaocgcnaaGreatDoorQ40
namespace Go.Proofs.YtfengpdaocgcnaaGreatDoor
open Nat (reduceMul reduceLeDiff reduceEqDiff reduceLT reduceAdd reduceSub reduceDiv)
open Int (reduceToNat reducePow)
open Go.RowKit
set_option linter.unusedSimpArgs false
set_option maxRecDepth 100000
theorem dg_word (n q:Nat):(dg n).getD q 0=n/4294967296^q%4294967296:=by
 have h:=vl_div (W32_dg n) q
 rw[vl_dg] at h
 rw[h]
 rcases hd:(dg n).drop q with _|⟨c,r⟩
 ·rw[getD_ge (List.drop_eq_nil_iff.1 hd)];rfl
 ·have h1:(dg n)[q]?=some c:=by
   have:=congrArg (·[0]?) hd
   simpa [List.getElem?_drop] using this
  have h2:c<4294967296:=by have:=(W32_dg n).get q;rwa [List.getD_eq_getElem?_getD,h1] at this
  rw[List.getD_eq_getElem?_getD,h1,vl]
  show c=_
  omega
theorem dg_byte (n k:Nat):(dg n).getD (k/4) 0/2^(8*(k%4))%256=n/256^k%256:=by
 have hr:k%4<4:=Nat.mod_lt _ (by omega)
 have e0:256^k=4294967296^(k/4)*2^(8*(k%4)):=by
  rw[show(256:Nat)=2^8 from rfl,show(4294967296:Nat)=2^32 from rfl,←Nat.pow_mul,←Nat.pow_mul,←Nat.pow_add]
  congr 1;omega
 rw[dg_word,e0,←Nat.div_div_eq_div_mul]
 generalize n/4294967296^(k/4)=x
 have e1:(4294967296:Nat)=2^(8*(k%4))*2^(32-8*(k%4)):=by
  rw[←Nat.pow_add,show 8*(k%4)+(32-8*(k%4))=32 by omega]
 have e2:x%4294967296/2^(8*(k%4))=x/2^(8*(k%4))%2^(32-8*(k%4)):=by
  conv=>lhs;rw[e1]
  exact Nat.mod_mul_right_div_self _ _ _
 rw[e2]
 exact Nat.mod_mod_of_dvd _ ⟨2^(24-8*(k%4)),by rw[show(256:Nat)=2^8 from rfl,←Nat.pow_add];congr 1;omega⟩
def bys:Nat→Nat→List UInt8
 |0,_=>[]
 |i+1,n=>bys i (n/256)++[UInt8.ofNat n]
theorem bys_len: ∀i n,(bys i n).length=i
 |0,_=>rfl
 |i+1,n=>by rw[bys,List.length_append,bys_len i];rfl
theorem bys_nb: ∀i n,nb (bys i n)=n%256^i
 |0,n=>by rw[bys,Nat.pow_zero,Nat.mod_one];rfl
 |i+1,n=>by
  have e:256^(i+1)=256*256^i:=Nat.pow_succ'
  rw[bys,nb_snoc,bys_nb i,UInt8.toNat_ofNat',e,Nat.mod_mul]
  omega
theorem bys_get: ∀L n j,j<L→(bys L n)[j]?=some (UInt8.ofNat (n/256^(L-1-j)))
 |0,_,j,h=>absurd h (Nat.not_lt_zero j)
 |L+1,n,j,h=>by
  rw[bys]
  rcases Nat.lt_or_ge j L with h1|h1
  ·rw[List.getElem?_append_left (by rw[bys_len];exact h1),bys_get L _ j h1,Nat.div_div_eq_div_mul,←Nat.pow_succ',show(L-1-j).succ=L+1-1-j by omega]
  ·obtain rfl:j=L:=by omega
   rw[List.getElem?_append_right (by rw[bys_len];exact Nat.le_refl _),bys_len,Nat.sub_self,show j+1-1-j=0 by omega,Nat.pow_zero,Nat.div_one];rfl
theorem bys_drop {L n m:Nat} (h:m<L):(bys L n).drop m=UInt8.ofNat (n/256^(L-1-m))::(bys L n).drop (m+1):=by
 have h1:m<(bys L n).length:=by rw[bys_len];exact h
 rw[List.drop_eq_getElem_cons h1]
 congr 1
 have:=bys_get L n m h
 rw[List.getElem?_eq_getElem h1] at this
 exact Option.some.inj this
theorem bys_take {L n m:Nat} (h:m<L):(bys L n).take (m+1)=(bys L n).take m++[UInt8.ofNat (n/256^(L-1-m))]:=by
 have h1:m<(bys L n).length:=by rw[bys_len];exact h
 rw[List.take_succ_eq_append_getElem h1]
 congr 2
 have:=bys_get L n m h
 rw[List.getElem?_eq_getElem h1] at this
 exact Option.some.inj this
theorem set_rep (m:Nat) (c:UInt8) (r:List UInt8):(List.replicate (m+1) 0++r).set m c=List.replicate m 0++c::r:=by
 rw[List.set_append_left _ _ (by simp),List.replicate_succ',List.set_append_right _ _ (by simp)]
 simp
theorem set_mid (p:List UInt8) (m:Nat) (c:UInt8):(p++List.replicate (m+1) 0).set p.length c=(p++[c])++List.replicate m 0:=by
 rw[List.set_append_right _ _ (Nat.le_refl _),Nat.sub_self,List.replicate_succ,List.set_cons_zero,List.append_assoc]
 rfl
def beN (n:Nat):List UInt8:=bys ((bl n+7)/8) n
theorem beN_nb (n:Nat):nb (beN n)=n:=by
 unfold beN
 rw[bys_nb]
 refine Nat.mod_eq_of_lt (Nat.lt_of_lt_of_le (bl_lt n) ?_)
 rw[show(256:Nat)=2^8 from rfl,←Nat.pow_mul]
 exact Nat.pow_le_pow_right (by omega) (by omega)
theorem u8_byte (n k:Nat):u8 (((n/256^k%256:Nat)):Int)=UInt8.ofNat (n/256^k):=by
 unfold u8
 exact UInt8.toNat_inj.1 (by rw[Int.toNat_natCast,UInt8.toNat_ofNat',UInt8.toNat_ofNat',Nat.mod_mod])
theorem dg_bl (n:Nat):(dg n).length*32≤bl n+31∧bl n≤(dg n).length*32:=by
 constructor
 ·by_cases h0:n=0
  ·subst h0;rw[dg_zero];simp
  ·have h1:=dg_lo h0
   have h2:=bl_lt n
   have h3:(dg n).length≠0:=fun e=>h0 (dg_eq_nil.1 (List.length_eq_zero_iff.1 e))
   have h4:2^(32*((dg n).length-1))<2^bl n:=by rw[←B_pow];omega
   have:=pow2_lt h4
   omega
 ·rw[bl_le_iff,Nat.mul_comm,←B_pow];exact dg_hi n
def BYaf:FuncId→List V→CR:=fun f args=>tab [(226,cW fun a=>cF [Pr a] false (.i (bl (vl a))))] noF f args
def BYa (J:Inv):Sig:=⟨J,sdf,BYaf,noH,0⟩
theorem BYa_ok (J:Inv):SigOk Tryz.prog (BYa J):= .plain (tab_ok (.c (.w fun a=> .z fun⟨c0,_⟩=>length_fn J a c0)<| .n) noF_ok)
theorem bytesI_own (J:Inv) (n:Nat) (hn:(dg n).length≤1000):FnH Tryz.prog J 185 [pN n] [] 0 (.by (beN n)) [] 1:=by
 refine fnJ Tryz.func185 rfl (by kernel_rfl) (BYa_ok J) rfl ?_
 unfold Tryz.f185
 have hL:=dg_bl n
 simp only[↓bE,bQ,reduceLT,↓reduceIte,reduceCtorEq,BYa,BYaf,pN]
 obtain⟨L,hLd⟩: ∃L,L=(bl n+7)/8:=⟨_,rfl⟩
 have e0:((bl n:Int)+7)/8=(L:Int):=by omega
 have eb:beN n=bys L n:=by unfold beN;rw[hLd]
 rw[e0,eb]
 refine⟨Pr.of (by omega),by constructor<;>omega,by constructor<;>omega,by omega,by omega,by omega,by omega,by omega,?_⟩
 rw[Int.toNat_natCast]
 refine LoopC.intro (α:=Nat) (fun i=>i≤L) (fun i=>⟨[(5, .i i),(4, .ro (.r 0)),(3, .i L),(0, .pe (.sq 2 .any [.st [.bb false,wV (dg n)]]) 0 0)],[(0, .row 5 (.by (List.replicate (L-i) 0++(bys L n).drop (L-i))))],1⟩) (fun i=>L-i) 0 (Nat.zero_le _) ?_ ?_
 ·have e1:(bys L n).drop L=[]:=List.drop_eq_nil_iff.2 (by rw[bys_len];omega)
  simp only[bQ,reduceLeDiff,reduceEqDiff,↓reduceIte,reduceCtorEq]
  exact⟨rfl,by rw[e1,List.append_nil]⟩
 ·intro i hi
  simp only[↓bE,bQ,reduceEqDiff,reduceLT,↓reduceIte,reduceCtorEq]
  refine⟨fun h=> ?_,fun h=> ?_⟩
  ·have h:i<L:=by have:=of_decide_eq_true h;omega
   have w1:wr .u64 (i:Int)=(i:Int):=wr64n (by omega)
   have w2:(8*((i:Int)%4))=((8*(i%4):Nat):Int):=by omega
   have w3:wr .u64 ((8*(i%4):Nat):Int)=((8*(i%4):Nat):Int):=wr64n (by omega)
   have w4:((i:Int)/4).toNat=i/4:=by omega
   have w6:(if 8*(i%4)≤32 then 8*(i%4) else 32)=8*(i%4):=if_pos (by omega)
   have w7:(((dg n).getD (i/4) 0:Nat):Int)/2^(8*(i%4))%256=((n/256^i%256:Nat):Int):=by rw[←dg_byte];simp
   have w8:((L:Int)-1-i).toNat=L-1-i:=by omega
   have hll:(List.replicate (L-i) 0++(bys L n).drop (L-i)).length=L:=by rw[List.length_append,List.length_replicate,List.length_drop,bys_len];omega
   simp only[w1,w2,w3,w4,w6,w7,w8,hll,Int.toNat_natCast]
   refine⟨by constructor<;>omega,by constructor<;>omega,by constructor<;>omega,by omega,by omega,by omega,by omega,by omega,by omega,by omega,by omega,by omega,by omega,by omega,by omega,by constructor<;>omega,Again.intro (i+1) h (by omega) ?_⟩
   have e2:L-i=L-1-i+1:=by omega
   have e3:L-(i+1)=L-1-i:=by omega
   have e4:(List.replicate (L-i) 0++(bys L n).drop (L-i)).set (L-1-i) (u8 ((n/256^i%256:Nat):Int))=List.replicate (L-(i+1)) 0++(bys L n).drop (L-(i+1)):=by
    rw[e3,bys_drop (show L-1-i<L by omega),e2,set_rep,u8_byte,show L-1-(L-1-i)=i by omega]
   simp only[bQ,reduceLeDiff,reduceEqDiff,↓reduceIte,reduceCtorEq,e4]
   omega
  ·have h:i=L:=by have:=of_decide_eq_false h;omega
   subst h
   rw[Nat.sub_self,List.replicate_zero,List.nil_append,List.drop_zero]
   refine RenC.skip ?_
   simp only[bQ,reduceLeDiff,↓reduceIte]
theorem bytesI_fn (J:Inv) (n:Nat) (hn:(dg n).length≤1000):Fn Tryz.prog J 185 false [pN n] (.by (beN n)):=Fn.of_plain (bytesI_own J n hn) rfl
theorem sign_fn (J:Inv) (n:Nat):Fn Tryz.prog J 129 false [pN n] (.i (if n=0 then 0 else 1)):=by
 refine fnI Tryz.func129 rfl (by kernel_rfl) rfl (S0_ok J) ?_
 unfold Tryz.f129
 simp only[bQ,reduceLT,↓reduceIte,reduceCtorEq,S0,pN]
 refine⟨fun h=> ?_,fun h=>⟨fun h2=>absurd h2 (by simp),fun _=> ?_⟩⟩
 ·have h:n=0:=dg_eq_nil.1 (List.length_eq_zero_iff.1 (by have:=eq_of_beq h;omega))
  rw[if_pos h]
 ·rw[if_neg fun e=>by subst e;rw[dg_zero] at h;exact absurd h (by simp)]
theorem natfill_own (J:Inv) (k nx L n:Nat) (hn:(dg n).length≤1000) (hL:L≤10000):FnH Tryz.prog J 268 [.ro (.r k),wV (dg n)] [(k, .row 5 (.by (List.replicate L 0)))] nx (.tu []) [(k, .row 5 (.by (bys L n)))] nx:=by
 refine fnJ Tryz.func268 rfl (by kernel_rfl) (S0b_ok J nx) rfl ?_
 unfold Tryz.f268
 simp only[bQ,reduceAdd,↓reduceIte,S0b,wV,List.length_replicate]
 refine LoopC.intro (α:=Nat) (fun i=>i≤L) (fun i=>⟨[(8, .i i),(7, .i L),(0, .ro (.r k)),(1,wV (dg n))],[(k, .row 5 (.by ((bys L n).take i++List.replicate (L-i) 0)))],nx⟩) (fun i=>L-i) 0 (Nat.zero_le _) ?_ ?_
 ·simp only[bQ,reduceEqDiff,↓reduceIte,reduceCtorEq]
  exact⟨rfl,Nat.le_refl _⟩
 ·intro i hi
  have hpl:((bys L n).take i).length=i:=by rw[List.length_take,bys_len];omega
  have hll:((bys L n).take i++List.replicate (L-i) 0).length=L:=by rw[List.length_append,List.length_replicate,hpl];omega
  simp only[↓bE,bQ,reduceEqDiff,reduceLT,↓reduceIte,reduceCtorEq,wV,hll]
  refine⟨fun h=> ?_,fun h=> ?_⟩
  ·have h:i<L:=by have:=of_decide_eq_true h;omega
   obtain⟨a,ha⟩: ∃a,L=a+1+i:=⟨L-1-i,by omega⟩
   have w0:(L:Int)-1-i=(a:Int):=by omega
   have w2:(8*((a:Int)%4)).toNat=8*(a%4):=by omega
   have w4:((a:Int)/4).toNat=a/4:=by omega
   have w6:(if 8*(a%4)≤32 then 8*(a%4) else 32)=8*(a%4):=if_pos (by omega)
   have w7:(((dg n).getD (a/4) 0:Nat):Int)/2^(8*(a%4))%256=((n/256^a%256:Nat):Int):=by rw[←dg_byte];simp
   have e2:L-i=(L-(i+1))+1:=by omega
   have e3: ∀c:UInt8,((bys L n).take i++List.replicate (L-i) 0).set i c=((bys L n).take i++[c])++List.replicate (L-(i+1)) 0:=fun c=>by
    have:=set_mid ((bys L n).take i) (L-(i+1)) c
    rwa [hpl,←e2] at this
   have e4:(bys L n).take i++[UInt8.ofNat (n/256^a)]=(bys L n).take (i+1):=by rw[bys_take h,show L-1-i=a by omega]
   simp only[w0,w2,w4,w6,w7,List.length_set,hll]
   refine⟨by constructor<;>omega,by constructor<;>omega,by omega,by omega,by omega,by omega,by omega,by constructor<;>omega,by omega,by omega,fun h2=> ?_,fun h2=> ?_⟩
   ·have h2:=of_decide_eq_true h2
    refine⟨by constructor<;>omega,by omega,by omega,by omega,by omega,by omega,by omega,by constructor<;>omega,by omega,by omega,by omega,by omega,by omega,by omega,by constructor<;>omega,Again.intro (i+1) h (by omega) ?_⟩
    simp only[bQ,reduceEqDiff,↓reduceIte,reduceCtorEq,e3,u8_byte]
    refine⟨by omega,?_,Nat.le_refl _⟩
    rw[←e3 (u8 0),List.set_set,e3,e4]
   ·have h2:=of_decide_eq_false h2
    have h3:n/256^a=0:=by
     refine Nat.div_eq_of_lt (Nat.lt_of_lt_of_le (dg_hi n) ?_)
     rw[B_256]
     exact Nat.pow_le_pow_right (by omega) (by omega)
    have e5:(bys L n).take i++[u8 0]=(bys L n).take (i+1):=by rw[←e4,h3];rfl
    refine⟨by constructor<;>omega,Again.intro (i+1) h (by omega) ?_⟩
    simp only[bQ,reduceEqDiff,↓reduceIte,reduceCtorEq,e3,e5]
    exact⟨by omega,Nat.le_refl _⟩
  ·have h:i=L:=by have:=of_decide_eq_false h;omega
   subst h
   have e1:(bys i n).take i=bys i n:=List.take_of_length_le (by rw[bys_len];exact Nat.le_refl _)
   rw[Nat.sub_self,List.replicate_zero,List.append_nil,e1]
   refine RenC.skip ?_
   simp only[bQ,reduceLeDiff,↓reduceIte]
   exact Nat.le_refl _
def BYbf:FuncId→List V→CR:=fun f args=>tab [(92,cW fun a=>cF [a.length≤67108864,W32 a] false (.i (bl (vl a)))),
 (141,cW fun a=>cF [a.length≤1073741824,W32 a] false (wV (dg (vl a))))] noF f args
def BYb (J:Inv):Sig:=⟨J,sdf,BYbf,noH,0⟩
theorem BYb_ok (J:Inv):SigOk Tryz.prog (BYb J):= .plain (tab_ok (.c (.w fun a=> .z fun⟨c0,c1,_⟩=>bits_fn J a c0 c1)<|
 .c (.w fun a=> .z fun⟨c0,c1,_⟩=>(by have h:=value_fn J a c0;rwa [trim_dg c1] at h))<| .n) noF_ok)
def BYh:FuncId→List V→List (Nat×Ob)→Nat→Option CallH:=fun f args h nx=>
 if f=268 then match args with
  |[.ro (.r k), .sq 1 d L]=>match Hroot h k with
   |some (.row ty (.by l))=>some ⟨[d= .val (.int .u32 0),ty=5,l=List.replicate l.length 0,L=wds (dg (vl (unW L))),(dg (vl (unW L))).length≤1000,l.length≤10000],[],[(k, .row ty (.by l))], .tu [],[(k, .row ty (.by (bys l.length (vl (unW L)))))],nx⟩
   |_=>none
  |_=>none
 else none
def BY (J:Inv):Sig:=⟨J,sdf,BYbf,BYh,0⟩
theorem BY_ok (J:Inv):SigOk Tryz.prog (BY J):=by
 refine⟨(BYb_ok J).1,fun f args h nx c hc hl=> ?_⟩
 change BYh f args h nx=some c at hc
 unfold BYh at hc
 split at hc
 ·rename_i hf;subst hf
  split at hc
  ·split at hc
   ·rename_i k d L _ ty l hk
    obtain rfl:=Option.some.inj hc
    have h1:d= .val (.int .u32 0):=hl _ (by simp)
    have h2:ty=5:=hl _ (by simp)
    have h3:l=List.replicate l.length 0:=hl (l=_) (by simp)
    have h4:L=wds (dg (vl (unW L))):=hl (L=_) (by simp)
    have h5:(dg (vl (unW L))).length≤1000:=hl _ (by simp)
    have h6:l.length≤10000:=hl _ (by simp)
    subst h1 h2
    have:=natfill_own J k nx l.length (vl (unW L)) h5 h6
    rw[←h3] at this
    unfold wV at this
    rw[←h4] at this
    exact this
   ·cases hc
  ·cases hc
 ·cases hc
theorem natBytes_fn (J:Inv) (n:Nat) (hn:(dg n).length≤1000):Fn Tryz.prog J 254 false [wV (dg n)] (.by (beN n)):=by
 refine Fn.of_plain (nx:=1) (post:=[]) ?_ rfl
 refine fnJ Tryz.func254 rfl (by kernel_rfl) (BY_ok J) rfl ?_
 unfold Tryz.f254
 have hL:=dg_bl n
 have eb:beN n=bys ((bl n+7)/8) n:=rfl
 have e0:((bl n:Int)+7)/8=(((bl n+7)/8:Nat):Int):=by omega
 rw[eb]
 simp only[↓bE,bQ,reduceEqDiff,↓reduceIte,reduceCtorEq,BY,BYbf,BYh,wV,e0,List.length_replicate]
 refine⟨by omega,by constructor<;>omega,by constructor<;>omega,by omega,by omega,by omega,by omega,by omega,by omega,hn,by omega,RenC.skip ?_⟩
 simp only[bQ,reduceLeDiff,↓reduceIte]
def CVaf:FuncId→List V→CR:=fun f args=>tab [(185,cP fun n=>cF [(dg n).length≤1000] false (.by (beN n))),
 (254,cW fun a=>cF [a=dg (vl a),(dg (vl a)).length≤1000] false (.by (beN (vl a)))),
 (129,cP fun n=>cF [] false (.i (if n=0 then 0 else 1))),
 (200,cI .i64 fun n=>cF [0≤n,n<9223372036854775808] false (pN n.toNat))] SDff f args
def CVa (J:Inv):Sig:=⟨J,sdf,CVaf,noH,0⟩
theorem CVa_ok (J:Inv):SigOk Tryz.prog (CVa J):= .plain (tab_ok (.c (.p fun n=> .z fun⟨c0,_⟩=>bytesI_fn J n c0)<|
 .c (.w fun a=> .z fun⟨c0,c1,_⟩=>(by have h:=natBytes_fn J (vl a) c1;rwa [←c0] at h))<|
 .c (.p fun n=> .z fun _=>sign_fn J n)<|
 .c (.i fun n=> .z fun⟨c0,_,_⟩=>(by have h:=newInt_fn J n.toNat (by omega);rwa [show V.i (n.toNat:Int)= .val (.int .i64 n) by unfold V.i;rw[Int.toNat_of_nonneg c0]] at h))<| .n) (SDf_ok J).1)
def CVab (J:Inv) (b:Nat):Sig:=⟨J,sdf,CVaf,noH,b⟩
theorem CVab_ok (J:Inv) (b:Nat):SigOk Tryz.prog (CVab J b):=⟨(CVa_ok J).1,(CVa_ok J).2⟩
def CVb (J:Inv):Sig:=⟨J,sdf,CVaf,SDgh,0⟩
theorem CVb_ok (J:Inv):SigOk Tryz.prog (CVb J):=⟨(CVa_ok J).1,SDgh_ok J⟩
theorem beN_len (n:Nat):(beN n).length=(bl n+7)/8:=bys_len _ _
theorem out_fn (J:Inv) (n:Nat) (hn:(dg n).length≤1000):Fn Tryz.prog J 131 false [pN n] (wV (dg n)):=by
 refine fnI Tryz.func131 rfl (by kernel_rfl) (wV_cl _) (CVa_ok J) ?_
 unfold Tryz.f131
 have hl:=beN_len n
 have hb:=dg_bl n
 simp only[↓bE,bQ,reduceEqDiff,↓reduceIte,reduceCtorEq,CVa,CVaf,SDff,pN,wV,beN_nb]
 exact⟨hn,by omega⟩
theorem in_fn (J:Inv) (n:Nat) (hn:(dg n).length≤1000):Fn Tryz.prog J 224 false [wV (dg n)] (pN n):=by
 refine Fn.of_plain (nx:=2) (post:=[]) ?_ (by simp[pN,V.cl,clL,wV,wds_cl])
 refine fnJ Tryz.func224 rfl (by kernel_rfl) (CVb_ok J) rfl ?_
 unfold Tryz.f224
 have hl:=beN_len n
 have hb:=dg_bl n
 simp only[↓bE,bQ,reduceEqDiff,reduceAdd,↓reduceIte,reduceCtorEq,CVb,CVaf,SDgh,pN,wV,beN_nb]
 refine⟨hn,by omega,RenC.skip ?_⟩
 simp only[bQ,reduceLeDiff,↓reduceIte]
 skip
def CVcf:FuncId→List V→CR:=fun f args=>tab [(224,cW fun a=>cF [a=dg (vl a),(dg (vl a)).length≤1000] false (pN (vl a))),
 (131,cP fun n=>cF [(dg n).length≤1000] false (wV (dg n)))] CVaf f args
def CVc (J:Inv):Sig:=⟨J,sdf,CVcf,noH,0⟩
theorem CVc_ok (J:Inv):SigOk Tryz.prog (CVc J):= .plain (tab_ok (.c (.w fun a=> .z fun⟨c0,c1,_⟩=>(by have h:=in_fn J (vl a) c1;rwa [←c0] at h))<|
 .c (.p fun n=> .z fun⟨c0,_⟩=>out_fn J n c0)<| .n) (CVa_ok J).1)
def ptV (x y:Nat):V:= .st [wV (dg x),wV (dg y), .bb false]
def ptI (x y:Nat):V:= .st [pN x,pN y,pN 1]
theorem l256:(dg (hexN hx256)).length≤100∧(dg (hexN hy256)).length≤100:=⟨Nat.le_trans (hexN_len2 (by kernel_rfl)) (Nat.le_of_ble_eq_true (by kernel_rfl)),Nat.le_trans (hexN_len2 (by kernel_rfl)) (Nat.le_of_ble_eq_true (by kernel_rfl))⟩
theorem gread_own (J:Inv) (x y:Nat) (hx:(dg x).length≤100) (hy:(dg y).length≤100):FnH Tryz.prog J 184 [ofV 1,ptV x y] [] 0 (.tu [ptI x y, .bb (crvOn (hexN hp256) (hexN hb256) x y)]) [] 3:=by
 refine fnC Tryz.func184 rfl (by kernel_rfl) (CVc_ok J) rfl ?_
 unfold Tryz.f184
 simp only[bQ,reduceAdd,↓reduceIte,reduceCtorEq,CVc,ofV,grV,pN,stepV,wV,ptV,ptI]
 refine DrawC.sch [(0,some []),(1,some []),(3,some []),(4,some []),(2,none),(5,none),(6,some []),(7,some [])] [] (by kernel_rfl) ?_
 simp only[↓bD,bQ,reduceLeDiff,reduceEqDiff,reduceLT,reduceAdd,↓reduceIte,reduceCtorEq,reduceToNat,CVcf,CVaf,SDff,pN,gcl,wV,cG]
 refine⟨by omega,by omega,by omega,by omega,p256_l,p256_l3,b256_l,hx,hy,RenC.skip ?_⟩
 simp only[bQ,reduceLeDiff,reduceEqDiff,reduceLT,reduceAdd,↓reduceIte]
theorem base1_own (J:Inv):FnH Tryz.prog J 73 [.i 1] [] 0 (ptV (hexN hx256) (hexN hy256)) [] 3:=by
 refine fnC Tryz.func73 rfl (by kernel_rfl) (CVc_ok J) rfl ?_
 unfold Tryz.f73
 simp only[↓bE,bQ,reduceLeDiff,reduceEqDiff,reduceLT,reduceAdd,↓reduceIte,reduceCtorEq,CVc,CVcf,CVaf,SDff,ofV,grV,pN,stepV,wV,ptV]
 refine⟨fun _=> ?_,fun h=>absurd h (by simp)⟩
 refine DrawC.sch [(0,some []),(1,some []),(2,some []),(3,some []),(5,some []),(6,some []),(7,some []),(8,some []),(4,none),(9,none),(10,none),(11,none)] [(11,[0,1,2])] (by kernel_rfl) ?_
 simp only[↓bE,bQ,reduceLeDiff,reduceEqDiff,reduceLT,reduceAdd,↓reduceIte,reduceCtorEq,Nat.reduceBEq,CVcf,wV]
 refine⟨by have:=l256.1;omega,by have:=l256.2;omega,RenC.skip ?_⟩
 simp only[bQ,reduceLeDiff,reduceEqDiff,reduceLT,reduceAdd,↓reduceIte]
theorem setMany_all {α:Type} {l xs:List α} (h:xs.length=l.length):setMany l 0 xs=xs:=by
 refine List.ext_getElem? fun k=> ?_
 rw[setMany_get _ _ _ _ (by omega),Nat.zero_add,Nat.sub_zero]
 split
 ·rfl
 ·rename_i h2
  rw[List.getElem?_eq_none (by omega),List.getElem?_eq_none (by omega)]
theorem cfill_own (J:Inv) (k nx n L:Nat) (hn:(dg n).length≤100) (hL:(beN n).length=L):FnH Tryz.prog J 130 [pN n, .ro (.r k)] [(k, .row 5 (.by (List.replicate L 0)))] nx (.ro (.r k)) [(k, .row 5 (.by (beN n)))] nx:=by
 refine fnJ Tryz.func130 rfl (by kernel_rfl) (CVab_ok J nx) rfl ?_
 unfold Tryz.f130
 simp only[↓bE,bQ,reduceEqDiff,reduceAdd,↓reduceIte,reduceCtorEq,CVab,CVaf,pN,wV,List.length_replicate]
 have hl:=beN_len n
 have hb:=dg_bl n
 refine⟨by omega,by kernel_rfl,by constructor<;>omega,by omega,by omega,RenC.skip ?_⟩
 simp only[bQ,↓reduceIte]
 refine⟨?_,Nat.le_refl _⟩
 rw[hL,show((L:Int)-(L:Int)).toNat=0 by omega,Nat.sub_zero]
 have e1:cpN (some L) L L=L:=Nat.min_self L
 rw[e1,List.take_of_length_le (by omega)]
 exact setMany_all (by rw[List.length_replicate];exact hL)
def CVh:FuncId→List V→List (Nat×Ob)→Nat→Option CallH:=fun f args h nx=>
 if f=130 then match args with
  |[.pe (.sq 2 .any [.st [.bb false, .sq 1 d L]]) 0 0, .ro (.r k)]=>match Hroot h k with
   |some (.row ty (.by l))=>some ⟨[d= .val (.int .u32 0),ty=5,L=wds (dg (vl (unW L))),(dg (vl (unW L))).length≤100,l=List.replicate l.length 0,(beN (vl (unW L))).length=l.length],[],[(k, .row ty (.by l))], .ro (.r k),[(k, .row ty (.by (beN (vl (unW L)))))],nx⟩
   |_=>none
  |_=>none
 else none
theorem CVh_ok (J:Inv) (f:FuncId) (args:List V) (h:List (Nat×Ob)) (nx:Nat) (c:CallH) (hc:CVh f args h nx=some c) (hl:AllP c.l):FnH Tryz.prog J f (mixA h c.bw args).1 c.pre nx c.res c.post c.nx:=by
 unfold CVh at hc
 split at hc
 ·rename_i hf;subst hf
  split at hc
  ·split at hc
   ·rename_i d L k _ ty l hk
    obtain rfl:=Option.some.inj hc
    have h1:d= .val (.int .u32 0):=hl _ (by simp)
    have h2:ty=5:=hl _ (by simp)
    have h3:L=wds (dg (vl (unW L))):=hl (L=_) (by simp)
    have h4:(dg (vl (unW L))).length≤100:=hl _ (by simp)
    have h5:l=List.replicate l.length 0:=hl (l=_) (by simp)
    have h6:(beN (vl (unW L))).length=l.length:=hl _ (by simp)
    subst h1 h2
    have:=cfill_own J k nx (vl (unW L)) l.length h4 h6
    rw[←h5] at this
    unfold pN wV at this
    rw[←h3] at this
    exact this
   ·cases hc
  ·cases hc
 ·cases hc
def cV1 (k:V→List V→CR):List V→CR
 |v::r=>k v r
 |_=>none
theorem EntAt.v {P:Program} {J:Inv} {f:FuncId} {mk:List V→List V} {k:V→List V→CR} (h: ∀x,EntAt P J f (fun r=>mk (x::r)) (k x)):EntAt P J f mk (cV1 k):=fun args l fr r hk hl=>by
 unfold cV1 at hk
 split at hk
 ·exact h _ _ l fr r hk hl
 ·cases hk
theorem fnT {P:Program} {G:Sig} {f:FuncId} {fn:Func} {c:Code} {args:List V} {t p u:Nat} {ty:TypeId} {r1 r2 r3:V} {nx:Nat} (hr:fn.results.toList=[.tmp t, .cell p ty, .tmp u]) (hf:P.funcs[f]?=some fn) (hb:fn.body=some c) (hk:chkFn P fn c args.length=true) (hG:SigOk P G) (hGb:G.b=0) (hc:r1.cl=true∧r2.cl=true∧r3.cl=true)
  (h:vg P G c ⟨enOf 0 args,[],0⟩ ⟨RenC G.b (fun s=>s.e.get t=some r1∧cellR P s p ty=some (r2,[])∧s.e.get u=some r3∧s.nx≤nx),RenC G.b (fun s=>s.e.get t=some r1∧cellR P s p ty=some (r2,[])∧s.e.get u=some r3∧s.nx≤nx),[]⟩):Fn P G.J f false args (.tu [r1,r2,r3]):=by
 refine Fn.of_plain (nx:=nx) (post:=[]) ?_ (by simp[V.cl,clL,hc])
 refine fnH_introR (fun s=>s.e.get t=some r1∧cellR P s p ty=some (r2,[])∧s.e.get u=some r3∧s.nx≤nx) (fun x s F a w h hs=> ?_) hf hb (chkFn_ok hk).1 (chkFn_ok hk).2.1 (chkFn_ok hk).2.2.1 (chkFn_ok hk).2.2.2 hG hGb h
 have hrr:fn.results= #[.tmp t, .cell p ty, .tmp u]:=by rw[←Array.toList_inj,hr]
 obtain⟨h1,h2,h3,h4⟩:=h
 obtain⟨b,j,z,hb,hz,hrep⟩:=cellR_ok h2 (fun _ h=>by cases h) hs
 refine⟨s,F, .tuple #[a.tmps.getD t undef,z,a.tmps.getD u undef],hs,⟨trivial,h4⟩,?_, .tu _ _ (fun j=>if j=0 then a.tmps.getD t undef else if j=1 then z else a.tmps.getD u undef) rfl (fun j hj=> ?_) (fun j hj=> ?_)⟩
 ·rw[Array.getD_eq_getD_getElem?] at hb
  simp[results,hrr,hb,asAddr,hz]
 ·have:j=0∨j=1∨j=2:=by simp at hj;omega
  rcases this with rfl|rfl|rfl<;>rfl
 ·have:j=0∨j=1∨j=2:=by simp at hj;omega
  rcases this with rfl|rfl|rfl
  ·exact(hs.env t _ h1).2
  ·exact hrep
  ·exact(hs.env u _ h3).2
def gx:Nat:=hexN hx256
def gy:Nat:=hexN hy256
theorem g_on:crvOn (hexN hp256) (hexN hb256) gx gy=true:=by kernel_rfl
theorem ofV_cl:(ofV 1).cl=true:=by simp[ofV,grV,pN,stepV,V.cl,clL,wV,wds_cl,V.i]
theorem ptI_cl (x y:Nat):(ptI x y).cl=true:=by simp[ptI,pN,V.cl,clL,wV,wds_cl]
theorem gread_fn (J:Inv):Fn Tryz.prog J 184 false [ofV 1,ptV gx gy] (.tu [ptI gx gy, .bb true]):=by
 have h:=gread_own J gx gy l256.1 l256.2
 rw[g_on] at h
 exact Fn.of_plain h (by simp[V.cl,clL,ptI_cl])
def CVdf:FuncId→List V→CR:=fun f args=>tab [(184,cV1 fun g=>cV1 fun p=>cF [g=ofV 1,p=ptV gx gy] false (.tu [ptI gx gy, .bb true]))] CVcf f args
def CVd (J:Inv):Sig:=⟨J,sdf,CVdf,noH,0⟩
theorem CVd_ok (J:Inv):SigOk Tryz.prog (CVd J):= .plain (tab_ok (.c (.v fun _=> .v fun _=> .z fun⟨c0,c1,_⟩=>(by rw[c0,c1];exact gread_fn J))<| .n) (CVc_ok J).1)
theorem ctake_fn (J:Inv):Fn Tryz.prog J 128 false [.i 1,ptV gx gy] (.tu [ofV 1,ptI gx gy, .bb true]):=by
 refine fnT (t:=4) (p:=5) (u:=6) (ty:=165) (nx:=3) (by kernel_rfl) Tryz.func128 rfl (by kernel_rfl) (CVd_ok J) rfl ⟨ofV_cl,ptI_cl _ _,rfl⟩ ?_
 simp only[↓bD,bQ,reduceLeDiff,reduceEqDiff,reduceLT,reduceAdd,↓reduceIte,reduceCtorEq,cV1,CVd,CVdf,CVcf,CVaf,SDff,ofV,grV,pN,stepV,wV,ptV,ptI]
 refine DrawC.sch [(0,some []),(1,some []),(2,some [0,1,2]),(3,some []),(4,none),(5,some [0,1,2])] [(4,[0,1,2])] (by kernel_rfl) ?_
 simp only[bQ,reduceLeDiff,reduceEqDiff,reduceLT,reduceAdd,↓reduceIte,Nat.reduceBEq]
 refine RenC.skip ⟨rfl,?_,rfl,by simp only[reduceLeDiff]⟩
 rfl
def CVef:FuncId→List V→CR:=fun f args=>tab [(128,cI .i64 fun c=>cV1 fun p=>cF [c=1,p=ptV gx gy] false (.tu [ofV 1,ptI gx gy, .bb true]))] CVdf f args
def CVe (J:Inv):Sig:=⟨J,sdf,CVef,noH,0⟩
theorem CVe_ok (J:Inv):SigOk Tryz.prog (CVe J):= .plain (tab_ok (.c (.i fun _=> .v fun _=> .z fun⟨c0,c1,_⟩=>(by rw[c0,c1];exact ctake_fn J))<| .n) (CVd_ok J).1)
def CVf (J:Inv):Sig:=⟨J,sdf,CVef,CVh,0⟩
theorem CVf_ok (J:Inv):SigOk Tryz.prog (CVf J):=⟨(CVe_ok J).1,CVh_ok J⟩
theorem gx_len:(beN gx).length=32∧(beN gy).length=32:=by
 have h1:bl gx=255:=bl_is (k:=254) (Nat.le_of_ble_eq_true (by kernel_rfl)) (Nat.lt_of_succ_le (Nat.le_of_ble_eq_true (by kernel_rfl)))
 have h2:bl gy=255:=bl_is (k:=254) (Nat.le_of_ble_eq_true (by kernel_rfl)) (Nat.lt_of_succ_le (Nat.le_of_ble_eq_true (by kernel_rfl)))
 rw[beN_len,beN_len,h1,h2]
 exact⟨rfl,rfl⟩
theorem encode_own (J:Inv):FnH Tryz.prog J 72 [.i 1,ptV gx gy] [] 0 (.tu [.by (beN gx), .by (beN gy), .i 0]) [] 4:=by
 have g1:(gx=0)=False:=eq_false fun e=>by have:=gx_len.1;rw[e,beN_len,bl_zero] at this;exact absurd this (by omega)
 refine fnJ Tryz.func72 rfl (by kernel_rfl) (CVf_ok J) rfl ?_
 unfold Tryz.f72
 have e1:((1:Int)==0)=false:=rfl
 have e32:((32:Nat):Int).toNat=32:=rfl
 simp only[↓bD,bQ,reduceLeDiff,reduceEqDiff,reduceLT,reduceAdd,↓reduceIte,reduceCtorEq,cV1,CVf,CVef,CVdf,CVcf,CVaf,ofV,grV,pN,stepV,wV,ptV,ptI,e1]
 refine DrawC.tree (.q 0 [] (.q 1 [] (.q 2 [] (.q 3 [] (.q 4 [] (.q 5 [] (.q 8 [] (.q 9 [] (.q 10 [] (.q 11 [] (.q 12 [] (.q 13 [] (.two 6 14 (.two 7 14 (.one 14 (.one 15 (.q 16 [] (.q 17 [] (.q 18 [] .done))))) (.one 7 (.one 15 (.q 16 [] (.q 17 [] (.q 18 [] .done)))))) (.one 6 (.one 7 (.one 15 (.q 16 [] (.q 17 [] (.q 18 [] .done))))))))))))))))))) [] (by kernel_rfl) ?_
 simp only[↓bD,bQ,reduceLeDiff,reduceEqDiff,reduceLT,reduceAdd,↓reduceIte,reduceCtorEq,CVh,CVef,CVdf,CVcf,CVaf,SDff,e32,List.length_replicate,gx_len]
 have h1:(dg gx).length≤100:=l256.1
 have h2:(dg gy).length≤100:=l256.2
 repeat' with_reducible apply And.intro
 all_goals first|omega|assumption|skip
 all_goals (refine RenC.skip ?_;simp only[bQ,reduceLeDiff,reduceEqDiff,reduceAdd,↓reduceIte,reduceCtorEq])
theorem encode_fn (J:Inv):Fn Tryz.prog J 72 false [.i 1,ptV gx gy] (.tu [.by (beN gx), .by (beN gy), .i 0]):=Fn.of_plain (encode_own J) rfl
theorem base1_fn (J:Inv):Fn Tryz.prog J 73 false [.i 1] (ptV gx gy):=Fn.of_plain (base1_own J) (by simp[ptV,V.cl,clL,wV,wds_cl])
def CVgf:FuncId→List V→CR:=fun f args=>tab [(73,cI .i64 fun c=>cF [c=1] false (ptV gx gy)),
 (72,cI .i64 fun c=>cV1 fun p=>cF [c=1,p=ptV gx gy] false (.tu [.by (beN gx), .by (beN gy), .i 0]))] CVef f args
def CVg (J:Inv):Sig:=⟨J,sdf,CVgf,noH,0⟩
theorem CVg_ok (J:Inv):SigOk Tryz.prog (CVg J):= .plain (tab_ok (.c (.i fun _=> .z fun⟨c0,_⟩=>(by rw[c0];exact base1_fn J))<|
 .c (.i fun _=> .v fun _=> .z fun⟨c0,c1,_⟩=>(by rw[c0,c1];exact encode_fn J))<| .n) (CVe_ok J).1)
def k0:Ky:=⟨3,1,[],[],[],beN gx,beN gy⟩
def k0W:V:= .st [.i 3, .i 1, .val (.slice none 0 0), .val (.slice none 0 0), .val (.slice none 0 0), .by (beN gx), .by (beN gy)]
theorem base_own (J:Inv):FnH Tryz.prog J 42 [.i 1] [] 0 k0W [] 3:=by
 refine fnC Tryz.func42 rfl (by kernel_rfl) (CVg_ok J) rfl ?_
 unfold Tryz.f42
 simp only[↓bD,bQ,reduceLeDiff,reduceEqDiff,reduceLT,reduceAdd,↓reduceIte,reduceCtorEq,cV1,CVg,CVgf,wV,ptV,k0W]
 refine RenC.skip ?_
 simp only[bQ,reduceLeDiff,reduceEqDiff,reduceLT,reduceAdd,↓reduceIte]
theorem base_fn (J:Inv):Fn Tryz.prog J 42 false [.i 1] k0.V:=(Fn.of_plain (base_own J) rfl).res fun _ _ _ h=>kyR_rep (v:=k0W) (k:=k0) rfl h
end Go.Proofs.YtfengpdaocgcnaaGreatDoor
