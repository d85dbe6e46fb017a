/- The program's numbers: shifted down; of bytes; small ones. Shifting up, dividing by one word, comparing word by word. Plain Lean. Division: by one word; shifting up; below. Knuth's trial digit. Plain Lean. -/
import Derived.Test.YtfengpdaocgcnaaGreatDoorQ21
import Derived.Test.YtfengpdaocgcnaaGreatDoorQ20
namespace Go.Proofs.YtfengpdaocgcnaaGreatDoor
open Nat (reduceMul reduceLeDiff reduceEqDiff reduceLT reduceAdd reduceSub reduceDiv)
open Int (reduceToNat reducePow)
open Go.RowKit
set_option linter.unusedSimpArgs false
set_option maxRecDepth 100000
theorem fw_drop_get {l:List Nat} {i n v:Nat} (hi:i≤n) (h:l.length=n):(fw i v++l.drop i).length=n∧(∀j,i≤j→(fw i v++l.drop i).getD j 0=l.getD j 0):=by
 have h1:=fw_len i v
 refine⟨by rw[List.length_append,h1,List.length_drop];omega,fun j hj=> ?_⟩
 rw[List.getD_eq_getElem?_getD,List.getElem?_append_right (by omega),List.getElem?_drop,List.getD_eq_getElem?_getD]
 congr 2;omega
theorem fw_drop_set {l:List Nat} {i v x:Nat} (hi:i<l.length) (hx:x=v/4294967296^i%4294967296):(fw i v++l.drop i).set i x=fw (i+1) v++l.drop (i+1):=by
 have h1:=fw_len i v
 rw[List.set_append_right _ _ (by omega),h1,Nat.sub_self,List.drop_eq_getElem_cons hi,List.set_cons_zero,fw_succ,hx,List.append_assoc]
 rfl
theorem down_fn (J:Inv) (k nx:Nat) (l:List Nat) (s:Nat) (hs:s<32) (hl:l.length≤1073741824) (wl:W32 l):FnH Tryz.prog J 210 [.ro (.r k), .i s] [(k, .row 156 (wV l))] nx (.tu []) [(k, .row 156 (wV (fw l.length (vl l/2^s))))] nx:=by
 refine fnJ Tryz.func210 rfl (by kernel_rfl) (SGbb_ok J nx) rfl ?_
 unfold Tryz.f210
 simp only[↓bE,bR,reduceMul,reduceLeDiff,reduceEqDiff,reduceLT,reduceAdd,reduceSub,↓reduceIte,reduceCtorEq,reduceToNat,reducePow,Nat.reduceBEq,reduceDiv,SGbb,SGbf,sdf,wV,unW_wds]
 refine LoopC.intro (α:=Nat) (fun i=>i≤l.length) (fun i=>⟨[(0, .ro (.r k)),(1, .i s),(7, .i l.length),(8, .i i)],[(k, .row 156 (wV (fw i (vl l/2^s)++l.drop i)))],nx⟩) (fun i=>l.length-i) 0 (Nat.zero_le _) ?_ ?_
 ·simp only[↓bE,bR,reduceMul,reduceLeDiff,reduceEqDiff,reduceLT,reduceAdd,reduceSub,↓reduceIte,reduceCtorEq,reduceToNat,reducePow,Nat.reduceBEq,reduceDiv,wV,fw]
  exact⟨rfl,Nat.le_refl _⟩
 ·intro i h3
  obtain⟨e0,e1⟩:=fw_drop_get (v:=vl l/2^s) h3 rfl
  have t1:((i:Int)+1).toNat=i+1:=by omega
  have t2:((s:Int)).toNat=s:=by omega
  simp only[↓bE,bR,reduceMul,reduceLeDiff,reduceEqDiff,reduceLT,reduceAdd,reduceSub,↓reduceIte,reduceCtorEq,reduceToNat,reducePow,Nat.reduceBEq,reduceDiv,SGbb,SGbf,sdf,wV,e0,t1,t2,unW_wds]
  rw[e1 i (Nat.le_refl _),e1 (i+1) (by omega)]
  refine⟨fun hi=> ?_,fun hi=> ?_⟩
  ·have hi:i<l.length:=by simpa using hi
   have hw:=down_word wl i s (by omega)
   have b1:=wl.get i
   have b2:=wl.get (i+1)
   have key: ∀y:Int,y=((l.getD i 0+4294967296*l.getD (i+1) 0:Nat):Int)→wds ((fw i (vl l/2^s)++l.drop i).set i (w32 (y/2^s)))=wds (fw (i+1) (vl l/2^s)++l.drop (i+1)):=fun y hy=>by
    rw[fw_drop_set hi]
    rw[hy,show((2:Int)^s)=((2^s:Nat):Int) by simp,←Int.natCast_ediv,w32_nat,hw]
   refine⟨by omega,by omega,hi,by constructor<;>omega,fun hj=> ?_,fun hj=> ?_⟩
   ·have hj:i+1<l.length:=by simp at hj;omega
    refine⟨by constructor<;>omega,by omega,by omega,hj,by omega,by omega,by omega,by omega,hi,by constructor<;>omega,Again.intro (i+1) hi (by omega) ?_⟩
    simp only[↓bE,bR,reduceMul,reduceLeDiff,reduceEqDiff,reduceLT,reduceAdd,reduceSub,↓reduceIte,reduceCtorEq,reduceToNat,reducePow,Nat.reduceBEq,reduceDiv,wV]
    rw[if_pos (by omega),key _ ?_]
    ·exact⟨by omega,rfl,Nat.le_refl _⟩
    ·rw[wr64n (by omega),wr64n (by omega),show((l.getD (i+1) 0:Nat):Int)*4294967296=((2^32*l.getD (i+1) 0:Nat):Int) by omega,wr64n (by omega),bt_eq,bits_or64 (by omega) (by omega),or_add (by omega)]
   ·have hz:l.getD (i+1) 0=0:=getD_ge (by simp at hj;omega)
    refine⟨by omega,by omega,by omega,hi,by constructor<;>omega,Again.intro (i+1) hi (by omega) ?_⟩
    simp only[↓bE,bR,reduceMul,reduceLeDiff,reduceEqDiff,reduceLT,reduceAdd,reduceSub,↓reduceIte,reduceCtorEq,reduceToNat,reducePow,Nat.reduceBEq,reduceDiv,wV]
    rw[if_pos (by omega),key _ ?_]
    ·exact⟨by omega,rfl,Nat.le_refl _⟩
    ·rw[wr64n (by omega),hz]
     rfl
  ·obtain rfl:i=l.length:=by simp at hi;omega
   refine .inl ?_
   simp only[↓bE,bR,reduceMul,reduceLeDiff,reduceEqDiff,reduceLT,reduceAdd,reduceSub,↓reduceIte,reduceCtorEq,reduceToNat,reducePow,Nat.reduceBEq,reduceDiv,wV,List.drop_length,List.append_nil]
   exact Nat.le_refl _
theorem wds_pair (a b:Int):[V.val (.int .u32 (wr .u32 a)),V.val (.int .u32 (wr .u32 b))]=wds [w32 a,w32 b]:=by rw[wr_w32,wr_w32];rfl
theorem fromUint_fn (J:Inv) (u:Nat) (hu:u<18446744073709551616):Fn Tryz.prog J 272 false [.val (.int .u64 u)] (wV (dg u)):=by
 refine fnI Tryz.func272 rfl (by kernel_rfl) (wV_cl _) (SGa_ok J) ?_
 unfold Tryz.f272
 simp only[↓bE,bR,reduceMul,reduceLeDiff,reduceEqDiff,reduceLT,reduceAdd,reduceSub,↓reduceIte,reduceCtorEq,reduceToNat,reducePow,Nat.reduceBEq,reduceDiv,SGa,SGaf,sdf,wV]
 simp only[wds_pair,unW_wds]
 have e:vl [w32 (u:Int),w32 ((u:Int)/4294967296)]=u:=by
  rw[w32_nat,show(u:Int)/4294967296=((u/4294967296:Nat):Int) by omega,w32_nat]
  simp only[vl]
  omega
 rw[e]
 exact⟨by omega,trivial,by simp,fun x hx=>by simp at hx;rcases hx with rfl|rfl<;>exact w32_lt _,rfl⟩
def SGdh:FuncId→List V→List (Nat×Ob)→Nat→Option CallH:=fun f args h nx=>
 if f=210 then match args with
  |[.ro (.r k), .val (.int .i64 s)]=>match Hroot h k with
   |some (.row ty (.sq 1 d L))=>some ⟨[ty=156,d= .val (.int .u32 0),L=wds (unW L),0≤s,s<32,(unW L).length≤1073741824,W32 (unW L)],[false,true],[(k, .row 156 (wV (unW L)))], .tu [],[(k, .row 156 (wV (fw (unW L).length (vl (unW L)/2^s.toNat))))],nx⟩
   |_=>none
  |_=>none
 else none
def SGd (J:Inv):Sig:=⟨J,sdf,SGaf,SGdh,0⟩
theorem SGd_ok (J:Inv):SigOk Tryz.prog (SGd J):=by
 refine⟨(SGa_ok J).1,fun f args h nx c hc hl=> ?_⟩
 change SGdh f args h nx=some c at hc
 unfold SGdh at hc
 split at hc
 ·rename_i hf;subst hf
  split at hc
  ·rename_i k s
   split at hc
   ·rename_i ty d L hk
    obtain rfl:=Option.some.inj hc
    have q1:ty=156:=hl _ (by simp)
    have q2:d= .val (.int .u32 0):=hl _ (by simp)
    have q4:0≤s:=hl _ (by simp)
    have q5:s<32:=hl _ (by simp)
    subst q1 q2
    have hp:=down_fn J k nx (unW L) s.toNat (by omega) (hl _ (by simp)) (hl _ (by simp))
    rw[Int.toNat_of_nonneg q4] at hp
    exact hp
   ·exact absurd hc (by simp)
  ·exact absurd hc (by simp)
 ·exact absurd hc (by simp)
theorem shr_fn (J:Inv) (a:List Nat) (k:Nat) (hk:k<32) (ha:a.length≤67108864) (wa:W32 a):Fn Tryz.prog J 162 false [wV a, .i k] (wV (dg (vl a/2^k))):=by
 refine fnI Tryz.func162 rfl (by kernel_rfl) (wV_cl _) (SGd_ok J) ?_
 unfold Tryz.f162
 have t1:imax (k:Int) 0=k:=by unfold imax;split<;>omega
 have t2:(k:Int)/32=0:=by omega
 have t3:(k:Int)%32=k:=by omega
 simp only[↓bE,bR,reduceMul,reduceLeDiff,reduceEqDiff,reduceLT,reduceAdd,reduceSub,↓reduceIte,reduceCtorEq,reduceToNat,reducePow,Nat.reduceBEq,reduceDiv,SGa,SGaf,SGd,SGdh,sdf,wV,unW_wds,t1,t2,t3]
 have la:=trim_len a
 rw[trim_dg wa] at la
 have wx:=W32_dg (vl a)
 have h1:=dg_hi (vl a)
 have h2:=vl_dg (vl a)
 generalize vl a=v at *
 have h3:v/2^k≤v:=Nat.div_le_self _ _
 rw[List.take_length]
 have e:vl (fw (dg v).length (vl (dg v)/2^k))=v/2^k:=by rw[fw_vl,h2,Nat.mod_eq_of_lt (by omega)]
 rw[e]
 refine⟨by omega,wa,by constructor<;>omega,by omega,by omega,fun h=> ?_,fun h=> ?_⟩
 ·have h4:(dg v).length=0:=by have h:=of_decide_eq_true h;omega
  have h5:v=0:=dg_eq_nil.1 (List.length_eq_zero_iff.1 h4)
  rw[h5,Nat.zero_div,dg_zero];rfl
 ·refine⟨by constructor<;>omega,by omega,by omega,by omega,by omega,by omega,by omega,by omega,by omega,by omega,by omega,wx,by rw[fw_len];omega,fw_w _ _,rfl⟩
def nb (b:List UInt8):Nat:=b.foldl (fun a c=>256*a+c.toNat) 0
theorem nb_snoc (b:List UInt8) (c:UInt8):nb (b++[c])=256*nb b+c.toNat:=by unfold nb;rw[List.foldl_append];rfl
theorem nb_lt (b:List UInt8):nb b<256^b.length:=by
 suffices h: ∀n,∀b:List UInt8,b.length=n→nb b<256^n from h _ b rfl
 intro n
 induction n with
 |zero=>intro b h;rw[List.length_eq_zero_iff.1 h];simp[nb]
 |succ n ih=>
  intro b h
  rcases List.eq_nil_or_concat b with rfl|⟨b,c,rfl⟩
  ·simp at h
  ·rw[List.concat_eq_append] at *
   rw[nb_snoc,Nat.pow_succ]
   have h1:=ih b (by simpa using h)
   have:=c.toNat_lt
   omega
theorem fromBytes_fn (J:Inv) (b:List UInt8) (hb:b.length≤67108864):Fn Tryz.prog J 93 false [.by b] (wV (dg (nb b))):=by
 refine fnI Tryz.func93 rfl (by kernel_rfl) (wV_cl _) (SGa_ok J) ?_
 unfold Tryz.f93
 simp only[↓bE,bR,reduceMul,reduceLeDiff,reduceEqDiff,reduceLT,reduceAdd,reduceSub,↓reduceIte,reduceCtorEq,reduceToNat,reducePow,Nat.reduceBEq,reduceDiv,SGa,SGaf,sdf,wV,unW_wds]
 refine⟨by constructor<;>omega,by constructor<;>omega,by omega,by omega,by omega,by omega,by omega,?_⟩
 rw[show(((b.length:Int)+3)/4).toNat=(b.length+3)/4 by omega]
 refine LoopC.intro (α:=Nat) (fun i=>i≤b.length) (fun i=>⟨[(0, .by b),(3, .ro (.r 0)),(12, .by b),(13, .i b.length),(14, .i i)],[(0, .row 156 (wV (fw ((b.length+3)/4) (nb (b.take i)*256^(b.length-i)))))],1⟩) (fun i=>b.length-i) 0 (Nat.zero_le _) ?_ ?_
 ·simp only[↓bE,bR,reduceMul,reduceLeDiff,reduceEqDiff,reduceLT,reduceAdd,reduceSub,↓reduceIte,reduceCtorEq,reduceToNat,reducePow,Nat.reduceBEq,reduceDiv,wV,List.take_zero]
  rw[show nb []=0 from rfl,Nat.zero_mul,fw_zero]
  exact⟨rfl,rfl⟩
 ·intro i h3
  simp only[↓bE,bR,reduceMul,reduceLeDiff,reduceEqDiff,reduceLT,reduceAdd,reduceSub,↓reduceIte,reduceCtorEq,reduceToNat,reducePow,Nat.reduceBEq,reduceDiv,SGa,SGaf,sdf,wV,fw_len,unW_wds]
  refine⟨fun hi=> ?_,fun hi=> ?_⟩
  ·have hi:i<b.length:=by simpa using hi
   refine⟨by omega,by omega,by constructor<;>omega,by constructor<;>omega,?_⟩
   refine DrawC.rows [(0,some (true,[])),(1,some (true,[])),(2,some (true,[])),(3,some (true,[])),(4,some (true,[])),
 (5,some (true,[])),(6,some (true,[])),(7,some (true,[])),(8,some (true,[])),(9,some (true,[])),
 (10,some (true,[])),(11,some (true,[])),(12,some (true,[])),(13,none)] [] [13] (by kernel_rfl) ?_
   simp only[↓bE,bR,reduceMul,reduceLeDiff,reduceEqDiff,reduceLT,reduceAdd,reduceSub,↓reduceIte,reduceCtorEq,reduceToNat,reducePow,Nat.reduceBEq,reduceDiv,SGa,SGaf,sdf,wV,fw_len,unW_wds]
   obtain⟨at',hat⟩: ∃at',b.length=at'+1+i:=⟨b.length-1-i,by omega⟩
   have t1:((b.length:Int)-1-i)=(at':Int):=by omega
   have t2:((at':Int)/4).toNat=at'/4:=by omega
   have t3:((at':Int)%4)=((at'%4:Nat):Int):=by omega
   have t4:(8*((at'%4:Nat):Int)).toNat=8*(at'%4):=by omega
   rw[t1,t2]
   refine⟨by constructor<;>omega,by omega,by omega,by omega,by omega,by omega,by omega,by omega,by constructor<;>omega,by omega,by omega,by omega,by omega,by constructor<;>omega,Again.intro (i+1) hi (by omega) ?_⟩
   simp only[↓bE,bR,reduceMul,reduceLeDiff,reduceEqDiff,reduceLT,reduceAdd,reduceSub,↓reduceIte,reduceCtorEq,reduceToNat,reducePow,Nat.reduceBEq,reduceDiv,wV,t1,t2,t3,t4]
   have hc:=(b.getD i 0).toNat_lt
   have e1:byteAt b i=(((b.getD i 0).toNat:Nat):Int):=rfl
   have e2:b.take (i+1)=b.take i++[b.getD i 0]:=by rw[List.take_succ_eq_append_getElem hi,List.getD_eq_getElem?_getD,List.getElem?_eq_getElem hi];rfl
   have hr:at'%4<4:=Nat.mod_lt _ (by omega)
   have hp:(b.getD i 0).toNat*2^(8*(at'%4))<4294967296:=by
    have h1:=Nat.pow_le_pow_right (n:=2) (by omega) (show 8*(at'%4)≤24 by omega)
    have h2:=Nat.mul_le_mul (show(b.getD i 0).toNat≤255 by omega) h1
    omega
   have hwl:(fw ((b.length+3)/4) (nb (b.take i)*256^(b.length-i))).getD (at'/4) 0<4294967296:=(fw_w _ _).get _
   rw[if_pos (by omega),e1,wr32n (by omega),show((2:Int)^(8*(at'%4)))=((2^(8*(at'%4)):Nat):Int) by simp,←Int.natCast_mul,wr32n hp,bt_eq,bits_or32 hwl hp,w32_nat,Nat.mod_eq_of_lt (Nat.or_lt_two_pow (n:=32) hwl hp)]
   have hnb:(256*nb (b.take i)+(b.getD i 0).toNat)*256^at'<4294967296^((b.length+3)/4):=by
    have h1:=nb_lt (b.take (i+1))
    rw[e2,nb_snoc,←e2,List.length_take,Nat.min_eq_left (by omega)] at h1
    rw[B_256]
    refine Nat.lt_of_lt_of_le ((Nat.mul_lt_mul_right (Nat.pow_pos (by omega))).2 h1) ?_
    rw[←Nat.pow_add]
    exact Nat.pow_le_pow_right (by omega) (by omega)
   have hput:=byte_put (n:=(b.length+3)/4) (N:=nb (b.take i)) (at':=at') (c:=(b.getD i 0).toNat) (by omega) hnb (by omega)
   rw[show b.length-i=at'+1 by omega,hput,show b.length-(i+1)=at' by omega,e2,nb_snoc]
   exact⟨by omega,rfl⟩
  ·obtain rfl:i=b.length:=by simp at hi;omega
   have h1:=nb_lt b
   have h2:nb b<4294967296^((b.length+3)/4):=by
    rw[B_256]
    exact Nat.lt_of_lt_of_le h1 (Nat.pow_le_pow_right (by omega) (by omega))
   rw[List.take_length,Nat.sub_self,Nat.pow_zero,Nat.mul_one,fw_vl,Nat.mod_eq_of_lt h2]
   exact⟨by omega,fw_w _ _,rfl⟩
theorem fw_add (n v t:Nat):fw n (v+4294967296^n*t)=fw n v:=
 vl_inj (fw_w _ _) (fw_w _ _) (by rw[fw_len,fw_len]) (by rw[fw_vl,fw_vl,Nat.add_mul_mod_self_left])
def cyU (x:List Nat) (s i:Nat):Nat:=vl (x.take i)*2^s/4294967296^i
theorem cyU_lt {x:List Nat} (h:W32 x) (s i:Nat):cyU x s i<2^s:=by
 unfold cyU
 have h1:=vl_take_lt h i
 exact Nat.div_lt_of_lt_mul ((Nat.mul_lt_mul_right (Nat.pow_pos (by omega))).2 h1)
theorem up_sum (x:List Nat) (s i:Nat):vl (x.take (i+1))*2^s/4294967296^i=cyU x s i+x.getD i 0*2^s:=by
 unfold cyU
 rw[vl_take_succ,Nat.add_mul,Nat.mul_assoc,Nat.add_mul_div_left _ _ (Nat.pow_pos (by omega))]
theorem cyU_succ (x:List Nat) (s i:Nat):cyU x s (i+1)=(cyU x s i+x.getD i 0*2^s)/4294967296:=by
 rw[←up_sum,Nat.div_div_eq_div_mul,←Nat.pow_succ];rfl
theorem up_low {c u s:Nat} (hs:s<32) (hc:c<2^s):(u*2^s%4294967296)|||c=(c+u*2^s)%4294967296∧u*2^s/4294967296=(c+u*2^s)/4294967296:=by
 obtain⟨t,ht⟩: ∃t,s+t=32:=⟨32-s,by omega⟩
 have e2:(4294967296:Nat)=2^s*2^t:=by rw[←Nat.pow_add,ht]
 have e3:u*2^s%4294967296=2^s*(u%2^t):=by rw[e2,Nat.mul_comm u,Nat.mul_mod_mul_left]
 have h1:u%2^t<2^t:=Nat.mod_lt _ (Nat.pow_pos (by omega))
 have h2:2^s*(u%2^t)+2^s≤4294967296:=by
  rw[e2,←Nat.mul_succ];exact Nat.mul_le_mul_left _ h1
 rw[e3,Nat.or_comm,or_add hc]
 have h3:=Nat.mod_add_div (u*2^s) 4294967296
 rw[e3] at h3
 omega
theorem up_word {x:List Nat} (h:W32 x) {s:Nat} (hs:s<32) (i:Nat):fw i (vl (x.take i)*2^s)++[(x.getD i 0*2^s%4294967296)|||cyU x s i]=fw (i+1) (vl (x.take (i+1))*2^s):=by
 rw[fw_succ,up_sum,(up_low hs (cyU_lt h s i)).1]
 congr 1
 rw[vl_take_succ,Nat.add_mul,Nat.mul_assoc,fw_add]
theorem cyU_step {x:List Nat} (h:W32 x) {s:Nat} (hs:s<32) (i:Nat):cyU x s (i+1)=x.getD i 0*2^s/4294967296:=by
 rw[cyU_succ,(up_low hs (cyU_lt h s i)).2]
theorem short_step {x:List Nat} {d k:Nat} (hk:k<x.length) (h:W32 x) (hd:0<d):
  fw (x.length-k) (vl (x.drop k)/d)=((4294967296*(vl (x.drop (k+1))%d)+x.getD k 0)/d)::fw (x.length-(k+1)) (vl (x.drop (k+1))/d)∧
  (4294967296*(vl (x.drop (k+1))%d)+x.getD k 0)%d=vl (x.drop k)%d:=by
 have e1:vl (x.drop k)=x.getD k 0+4294967296*vl (x.drop (k+1)):=by rw[List.drop_eq_getElem_cons hk,vl,getD_lt hk]
 have hx:=h.get k
 generalize vl (x.drop (k+1))=v at *
 generalize x.getD k 0=u at *
 have e2:=Nat.mod_add_div v d
 have hr:=Nat.mod_lt v hd
 have e3:u+4294967296*v=(4294967296*(v%d)+u)+d*(4294967296*(v/d)):=by
  have:4294967296*v=4294967296*(v%d)+d*(4294967296*(v/d)):=by
   rw[Nat.mul_left_comm d,←Nat.mul_add,e2]
  omega
 have hq:(4294967296*(v%d)+u)/d<4294967296:=Nat.div_lt_of_lt_mul (by
  have:=Nat.mul_le_mul_left 4294967296 hr
  rw[Nat.mul_succ] at this
  rw[Nat.mul_comm];omega)
 rw[e1,e3,Nat.add_mul_div_left _ _ hd,Nat.add_mul_mod_self_left]
 refine⟨?_,rfl⟩
 clear e3 e2
 generalize (4294967296*(v%d)+u)/d=q at *
 generalize v/d=Q at *
 rw[show x.length-k=(x.length-(k+1))+1 by omega,fw]
 congr 1
 ·omega
 ·congr 1;omega
theorem rep_set (k:Nat) (L:List Nat) (q:Nat):(List.replicate (k+1) 0++L).set k q=List.replicate k 0++q::L:=by
 rw[List.replicate_succ',List.append_assoc,List.set_append_right _ _ (by simp),List.length_replicate,Nat.sub_self]
 rfl
theorem cmp3_neg {x y:Nat}:cmp3 x y= -1↔x<y:=by
 unfold cmp3
 by_cases h:x<y
 ·simp[h]
 ·by_cases h2:y<x
  ·simp[h,h2]
  ·simp[h,h2]
def SGef:FuncId→List V→CR:=fun f args=>tab [(280,cI .u32 fun x=>cI .u32 fun y=>cI .u32 fun d=>cF [0≤x,x<d,0≤y,y<4294967296,d<4294967296] false (.tu [.val (.int .u32 ((4294967296*x.toNat+y.toNat)/d.toNat:Nat)), .val (.int .u32 ((4294967296*x.toNat+y.toNat)%d.toNat:Nat))]))] noF f args
def SGe (J:Inv):Sig:=⟨J,sdf,SGef,noH,0⟩
theorem SGe_ok (J:Inv):SigOk Tryz.prog (SGe J):= .plain (tab_ok (.c (.i fun x=> .i fun y=> .i fun d=> .z fun⟨c0,_,c2,_,_,_⟩=>(by have h:=div32_fn J x.toNat y.toNat d.toNat (by omega) (by omega) (by omega);rwa [Int.toNat_of_nonneg c0,Int.toNat_of_nonneg c2,Int.toNat_of_nonneg (show 0≤d by omega)] at h))<| .n) noF_ok)
theorem short_fn (J:Inv) (x:List Nat) (d:Nat) (hx:x.length≤67108864) (wx:W32 x) (hd:0<d) (hd2:d<4294967296):Fn Tryz.prog J 271 false [wV x, .val (.int .u32 d)] (.tu [wV (fw x.length (vl x/d)), .val (.int .u32 (vl x%d:Nat))]):=by
 refine fnI Tryz.func271 rfl (by kernel_rfl) (by simp[V.cl,clL,wV,wds_cl]) (SGe_ok J) ?_
 unfold Tryz.f271
 simp only[↓bE,bR,reduceMul,reduceLeDiff,reduceEqDiff,reduceLT,reduceAdd,reduceSub,↓reduceIte,reduceCtorEq,reduceToNat,reducePow,Nat.reduceBEq,reduceDiv,SGe,SGef,sdf,wV,unW_wds]
 refine⟨by omega,by omega,by omega,by constructor<;>omega,?_⟩
 refine LoopC.intro (α:=Nat) (fun k=>k≤x.length) (fun k=>⟨[(0,wV x),(1, .val (.int .u32 d)),(6, .ro (.r 0)),(7, .val (.int .u32 (vl (x.drop k)%d:Nat))),(8, .i ((k:Int)-1))],[(0, .row 156 (wV (List.replicate k 0++fw (x.length-k) (vl (x.drop k)/d))))],1⟩) (fun k=>k) x.length (Nat.le_refl _) ?_ ?_
 ·simp only[↓bE,bR,reduceMul,reduceLeDiff,reduceEqDiff,reduceLT,reduceAdd,reduceSub,↓reduceIte,reduceCtorEq,reduceToNat,reducePow,Nat.reduceBEq,reduceDiv,wV]
  rw[List.drop_length,Nat.sub_self,show vl []=0 from rfl,Nat.zero_mod,Nat.zero_div,fw,List.append_nil]
  exact⟨rfl,rfl⟩
 ·intro k h3
  have hl:(List.replicate k 0++fw (x.length-k) (vl (x.drop k)/d)).length=x.length:=by rw[List.length_append,List.length_replicate,fw_len];omega
  simp only[↓bE,bR,reduceMul,reduceLeDiff,reduceEqDiff,reduceLT,reduceAdd,reduceSub,↓reduceIte,reduceCtorEq,reduceToNat,reducePow,Nat.reduceBEq,reduceDiv,SGe,SGef,sdf,wV,unW_wds,hl]
  refine⟨fun hk=> ?_,fun hk=> ?_⟩
  ·obtain⟨k,rfl⟩: ∃j,k=j+1:=⟨k-1,by simp at hk;omega⟩
   obtain⟨f1,f2⟩:=short_step (d:=d) (k:=k) (by omega) wx hd
   have hr:=Nat.mod_lt (vl (x.drop (k+1))) hd
   have hg:=wx.get k
   have t1:(((k+1:Nat):Int)-1).toNat=k:=by omega
   simp only[t1,Int.toNat_natCast]
   refine⟨by omega,by omega,by omega,by omega,by omega,by omega,by omega,by omega,by omega,by omega,by constructor<;>omega,Again.intro k (by omega) (by omega) ?_⟩
   simp only[↓bE,bR,reduceMul,reduceLeDiff,reduceEqDiff,reduceLT,reduceAdd,reduceSub,↓reduceIte,reduceCtorEq,reduceToNat,reducePow,Nat.reduceBEq,reduceDiv,wV,t1,rep_set]
   rw[f2,←f1]
   exact⟨⟨rfl,by omega⟩,rfl⟩
  ·obtain rfl:k=0:=by simp at hk;omega
   rw[List.drop_zero,Nat.sub_zero,List.replicate_zero,List.nil_append]
   exact⟨rfl,rfl⟩
theorem up_fn (J:Inv) (k nx:Nat) (l x:List Nat) (s:Nat) (hs:s<32) (hl:l.length≤1073741824) (hx:x.length≤l.length) (wx:W32 x):FnH Tryz.prog J 282 [.ro (.r k),wV x, .i s] [(k, .row 156 (wV l))] nx (.tu []) [(k, .row 156 (wV (fw l.length (vl x*2^s))))] nx:=by
 refine fnJ Tryz.func282 rfl (by kernel_rfl) (SGbb_ok J nx) rfl ?_
 unfold Tryz.f282
 simp only[↓bE,bR,reduceMul,reduceLeDiff,reduceEqDiff,reduceLT,reduceAdd,reduceSub,↓reduceIte,reduceCtorEq,reduceToNat,reducePow,Nat.reduceBEq,reduceDiv,SGbb,SGbf,sdf,wV,unW_wds]
 refine LoopC.intro (α:=Nat) (fun i=>i≤l.length) (fun i=>⟨[(0, .ro (.r k)),(1,wV x),(2, .i s),(6, .val (.int .u32 (cyU x s i:Nat))),(10, .i l.length),(11, .i i)],[(k, .row 156 (wV (fw i (vl (x.take i)*2^s)++l.drop i)))],nx⟩) (fun i=>l.length-i) 0 (Nat.zero_le _) ?_ ?_
 ·simp only[↓bE,bR,reduceMul,reduceLeDiff,reduceEqDiff,reduceLT,reduceAdd,reduceSub,↓reduceIte,reduceCtorEq,reduceToNat,reducePow,Nat.reduceBEq,reduceDiv,wV,fw,cyU,List.take_zero]
  rw[show vl []=0 from rfl,Nat.zero_mul,Nat.zero_div]
  exact⟨⟨rfl,rfl⟩,Nat.le_refl _⟩
 ·intro i h3
  obtain⟨e0,e1⟩:=fw_drop_get (v:=vl (x.take i)*2^s) h3 rfl
  simp only[↓bE,bR,reduceMul,reduceLeDiff,reduceEqDiff,reduceLT,reduceAdd,reduceSub,↓reduceIte,reduceCtorEq,reduceToNat,reducePow,Nat.reduceBEq,reduceDiv,SGbb,SGbf,sdf,wV,e0,unW_wds]
  have t2:((s:Int)).toNat=s:=by omega
  refine⟨fun hi=> ?_,fun hi=> ?_⟩
  ·have hi:i<l.length:=by simpa using hi
   have hw:=up_word wx hs i
   have hc:=cyU_step wx hs i
   have hcl:=cyU_lt wx s i
   have b1:=wx.get i
   have hp:2^s≤2^31:=Nat.pow_le_pow_right (by omega) (by omega)
   have hxs:x.getD i 0*2^s<18446744073709551616:=by
    have:=Nat.mul_le_mul (show x.getD i 0≤4294967295 by omega) hp
    omega
   have set1: ∀z,(fw i (vl (x.take i)*2^s)++l.drop i).set i z=fw i (vl (x.take i)*2^s)++z::l.drop (i+1):=fun z=>by
    rw[List.set_append_right _ _ (by rw[fw_len];omega),fw_len,Nat.sub_self,List.drop_eq_getElem_cons hi,List.set_cons_zero]
   have key:w32 (bt .or .u32 (wr .u32 ((x.getD i 0:Nat)*2^s)) (cyU x s i:Nat))=(x.getD i 0*2^s%4294967296)|||cyU x s i:=by
    have h1:x.getD i 0*2^s%4294967296<4294967296:=Nat.mod_lt _ (by omega)
    rw[show((x.getD i 0:Nat):Int)*2^s=((x.getD i 0*2^s:Nat):Int) by simp,wr32m,bt_eq,bits_or32 h1 (by omega),w32_nat,Nat.mod_eq_of_lt (Nat.or_lt_two_pow (n:=32) h1 (by omega))]
   have key2:wr .u32 (wr .u64 (wr .u64 (x.getD i 0:Nat)*2^s)/4294967296)=(cyU x s (i+1):Nat):=by
    rw[wr64n (by omega),show((x.getD i 0:Nat):Int)*2^s=((x.getD i 0*2^s:Nat):Int) by simp,wr64n hxs,show((x.getD i 0*2^s:Nat):Int)/4294967296=((x.getD i 0*2^s/4294967296:Nat):Int) by omega,←hc,wr32n]
    have:=cyU_lt wx s (i+1)
    omega
   have goal:fw i (vl (x.take i)*2^s)++((x.getD i 0*2^s%4294967296)|||cyU x s i)::l.drop (i+1)=fw (i+1) (vl (x.take (i+1))*2^s)++l.drop (i+1):=by
    rw[←hw,List.append_assoc];rfl
   refine⟨fun hj=> ?_,fun hj=> ?_⟩
   ·refine⟨by omega,by simpa using hj,by omega,by omega,by omega,hi,by omega,by omega,by constructor<;>omega,Again.intro (i+1) hi (by omega) ?_⟩
    simp only[↓bE,bR,reduceMul,reduceLeDiff,reduceEqDiff,reduceLT,reduceAdd,reduceSub,↓reduceIte,reduceCtorEq,reduceToNat,reducePow,Nat.reduceBEq,reduceDiv,wV]
    rw[if_pos (by omega),if_pos (by omega),set1,key,key2,goal]
    exact⟨⟨rfl,by omega⟩,rfl,Nat.le_refl _⟩
   ·have hz:x.getD i 0=0:=getD_ge (by simp at hj;omega)
    rw[hz] at key key2 goal
    refine⟨by omega,by omega,by omega,hi,by omega,by omega,by constructor<;>omega,Again.intro (i+1) hi (by omega) ?_⟩
    simp only[↓bE,bR,reduceMul,reduceLeDiff,reduceEqDiff,reduceLT,reduceAdd,reduceSub,↓reduceIte,reduceCtorEq,reduceToNat,reducePow,Nat.reduceBEq,reduceDiv,wV]
    rw[if_pos (by omega),if_pos (by omega),set1]
    refine⟨⟨key2,by omega⟩,?_,Nat.le_refl _⟩
    rw[←goal,←key]
    rfl
  ·obtain rfl:i=l.length:=by simp at hi;omega
   refine .inl ?_
   simp only[↓bE,bR,reduceMul,reduceLeDiff,reduceEqDiff,reduceLT,reduceAdd,reduceSub,↓reduceIte,reduceCtorEq,reduceToNat,reducePow,Nat.reduceBEq,reduceDiv,wV,List.drop_length,List.append_nil]
   rw[List.take_of_length_le hx]
   exact⟨rfl,Nat.le_refl _⟩
theorem below_fn (J:Inv) (a b:List Nat) (ha:a.length≤1073741824) (hab:a.length=b.length) (wa:W32 a) (wb:W32 b):Fn Tryz.prog J 284 false [wV a,wV b] (.bb (decide (vl a<vl b))):=by
 refine fnI Tryz.func284 rfl (by kernel_rfl) rfl (SGa_ok J) ?_
 unfold Tryz.f284
 simp only[↓bE,bR,reduceMul,reduceLeDiff,reduceEqDiff,reduceLT,reduceAdd,reduceSub,↓reduceIte,reduceCtorEq,reduceToNat,reducePow,Nat.reduceBEq,reduceDiv,SGa,SGaf,sdf,wV,unW_wds]
 refine⟨by constructor<;>omega,?_⟩
 refine LoopC.intro (α:=Nat) (fun k=>k≤a.length∧cmp3 (vl a) (vl b)=cmp3 (vl (a.take k)) (vl (b.take k))) (fun k=>⟨[(0,wV a),(1,wV b),(5, .i ((k:Int)-1))],[],0⟩) (fun k=>k) a.length ⟨Nat.le_refl _,by rw[List.take_length,hab,List.take_length]⟩ ?_ ?_
 ·simp only[↓bE,bR,reduceMul,reduceLeDiff,reduceEqDiff,reduceLT,reduceAdd,reduceSub,↓reduceIte,reduceCtorEq,reduceToNat,reducePow,Nat.reduceBEq,reduceDiv,wV]
 ·rintro k ⟨h3,h4⟩
  simp only[↓bE,bR,reduceMul,reduceLeDiff,reduceEqDiff,reduceLT,reduceAdd,reduceSub,↓reduceIte,reduceCtorEq,reduceToNat,reducePow,Nat.reduceBEq,reduceDiv,SGa,SGaf,sdf,wV]
  refine⟨fun hk=> ?_,fun hk=> ?_⟩
  ·obtain⟨k,rfl⟩: ∃j,k=j+1:=⟨k-1,by simp at hk;omega⟩
   rw[show(((k+1:Nat):Int)-1).toNat=k by omega]
   refine⟨by omega,by omega,by omega,by omega,fun h=>⟨by omega,by omega,by omega,by omega,?_⟩,fun h=>⟨by constructor<;>omega,Again.intro k ⟨by omega,?_⟩ (by omega) ?_⟩⟩
   ·refine decide_eq_decide.2 ?_
    rw[←cmp3_neg (x:=vl a),h4,cmp3_neg]
    constructor
    ·intro h5;exact word_lt wa (by omega)
    ·intro h5
     simp only[Bool.not_eq_true',beq_eq_false_iff_ne,ne_eq] at h
     rcases Nat.lt_trichotomy (a.getD k 0) (b.getD k 0) with h6|h6|h6
     ·omega
     ·exact absurd (by rw[h6]) h
     ·have:=word_lt wb h6;omega
   ·have h5:a.getD k 0=b.getD k 0:=by simp only[Bool.not_eq_false',beq_iff_eq] at h;omega
    rw[h4,word_eq h5]
   ·simp only[↓bE,bR,reduceMul,reduceLeDiff,reduceEqDiff,reduceLT,reduceAdd,reduceSub,↓reduceIte,reduceCtorEq,reduceToNat,reducePow,Nat.reduceBEq,reduceDiv,wV,V.i]
    omega
  ·obtain rfl:k=0:=by simp at hk;omega
   have h5: ¬vl a<vl b:=by rw[←cmp3_neg,h4];simp[cmp3,vl]
   simp[h5]
def estF (v1 v2 u2:Nat):Nat→Nat→Nat
 |0,_=>0
 |d+1,r=>if 4294967296≤d+1∨r*4294967296+u2<(d+1)*v2 then (if 4294967296≤r+v1 then d else estF v1 v2 u2 d (r+v1)) else d+1
theorem estF_hi {v1 v2 u2:Nat}: ∀{d r T:Nat},T=d*v1+r→T<4294967296*v1+4294967296→estF v1 v2 u2 d r<4294967296
 |0,r,T,_,_=>by rw[estF];omega
 |d+1,r,T,h,hT=>by
  rw[estF]
  rw[Nat.succ_mul] at h
  split
  ·split
   ·rename_i h2
    have h3:d*v1<4294967296*v1:=by omega
    exact Nat.lt_of_mul_lt_mul_right h3
   ·exact estF_hi (T:=T) (by omega) hT
  ·omega
theorem estF_lo {v1 v2 u2 q d r T:Nat} (hq:q<4294967296) (h:T=d*v1+r) (hT:q*(v1*4294967296+v2)≤T*4294967296+u2) (hd:q≤d):q≤estF v1 v2 u2 d r:=by
 induction d generalizing r with
 |zero=>rw[estF];exact hd
 |succ d ih=>
  rw[estF]
  rw[Nat.succ_mul] at h
  split
  ·rename_i hc
   have hqd:q≤d:=by
    rcases hc with hc|hc
    ·omega
    ·rcases Nat.lt_or_ge d q with h1|h1
     ·have h2:q=d+1:=by omega
      rw[h2,Nat.mul_add,←Nat.mul_assoc,Nat.succ_mul d v1] at hT
      omega
     ·exact h1
   split
   ·exact hqd
   ·exact ih (by omega) hqd
  ·exact hd
theorem div_le_digit {u v q t t' k:Nat} (h:q*v≤u) (hv:t*k≤v) (hu:u<(t'+1)*k):q*t≤t':=by
 have h1:q*t*k≤q*v:=by rw[Nat.mul_assoc];exact Nat.mul_le_mul_left _ hv
 have h2:q*t*k<(t'+1)*k:=by omega
 have:=Nat.lt_of_mul_lt_mul_right h2
 omega
def topW (u:List Nat) (n:Nat):Nat:=u.getD n 0*4294967296+u.getD (n-1) 0
def est (u v:List Nat):Nat:=estF (v.getD (v.length-1) 0) (v.getD (v.length-2) 0) (u.getD (v.length-2) 0) (topW u v.length/v.getD (v.length-1) 0) (topW u v.length%v.getD (v.length-1) 0)
theorem top2 {v:List Nat} {m:Nat} (h:v.length=m+2):vl v=vl (v.take m)+4294967296^m*(v.getD m 0+4294967296*v.getD (m+1) 0):=by
 have h1:=vl_take_succ v m
 have h2:=vl_take_succ v (m+1)
 rw[show m+1+1=v.length by omega,List.take_length,Nat.pow_succ,Nat.mul_assoc] at h2
 rw[h2,h1,Nat.mul_add,Nat.add_assoc]
theorem top_bound {B K U V a b u0 u1 u2 v1 v2:Nat} (e2:U=a+K*(u2+B*(u1+B*u0))) (e1:V=b+K*(v2+B*v1)) (l1:b<K) (b1:v2<B) (h:U<B*V):u1+B*u0<B*(v1+1):=by
 have h5:K*B*(u1+B*u0)≤U:=by
  rw[e2,Nat.mul_assoc]
  exact Nat.le_trans (Nat.mul_le_mul_left K (Nat.le_add_left _ _)) (Nat.le_add_left _ _)
 have h6:V<K*B*(v1+1):=by
  have h7:K*(v2+B*v1+1)≤K*(B*(v1+1)):=Nat.mul_le_mul_left K (by rw[Nat.mul_succ B];omega)
  rw[Nat.mul_succ] at h7
  rw[e1,Nat.mul_assoc]
  omega
 have h8:K*B*(u1+B*u0)<K*B*(B*(v1+1)):=by
  have h9:B*V<B*(K*B*(v1+1)):=(Nat.mul_lt_mul_left (by omega)).2 h6
  rw[Nat.mul_left_comm (K*B) B]
  omega
 exact Nat.lt_of_mul_lt_mul_left h8
theorem est_facts {u v:List Nat} {m:Nat} (hv:v.length=m+2) (hu:u.length=m+3) (wu:W32 u) (wv:W32 v) (hlt:vl u<4294967296*vl v) (htop:2147483648≤v.getD (m+1) 0):
  vl u/vl v<4294967296∧vl u/vl v*(v.getD (m+1) 0*4294967296+v.getD m 0)≤(u.getD (m+2) 0*4294967296+u.getD (m+1) 0)*4294967296+u.getD m 0∧vl u/vl v≤(u.getD (m+2) 0*4294967296+u.getD (m+1) 0)/v.getD (m+1) 0∧u.getD (m+2) 0*4294967296+u.getD (m+1) 0<4294967296*v.getD (m+1) 0+4294967296:=by
 have e1:=top2 hv
 have e2:vl u=vl (u.take m)+4294967296^m*(u.getD m 0+4294967296*(u.getD (m+1) 0+4294967296*u.getD (m+2) 0)):=by
  have h1:=vl_take_succ u m
  have h2:=vl_take_succ u (m+1)
  have h3:=vl_take_succ u (m+2)
  rw[show m+2+1=u.length by omega,List.take_length,Nat.pow_succ,Nat.pow_succ,Nat.mul_assoc,Nat.mul_assoc] at h3
  rw[Nat.pow_succ,Nat.mul_assoc] at h2
  rw[h3,h2,h1]
  simp only[Nat.mul_add]
  omega
 have l1:=vl_take_lt wv m
 have l2:=vl_take_lt wu m
 have b1:=wv.get m
 have b2:=wu.get m
 have b3:=wu.get (m+1)
 generalize v.getD (m+1) 0=v1 at *
 generalize v.getD m 0=v2 at *
 generalize u.getD (m+2) 0=u0 at *
 generalize u.getD (m+1) 0=u1 at *
 generalize u.getD m 0=u2 at *
 have hvp:0<vl v:=by omega
 have hq:vl u/vl v<4294967296:=Nat.div_lt_of_lt_mul (by rw[Nat.mul_comm];exact hlt)
 have hqv:vl u/vl v*vl v≤vl u:=Nat.div_mul_le_self _ _
 generalize vl u/vl v=q at *
 have hK:(v1*4294967296+v2)*4294967296^m≤vl v:=by
  rw[e1,Nat.mul_comm,show v1*4294967296+v2=v2+4294967296*v1 by omega];omega
 have hU:vl u<((u0*4294967296+u1)*4294967296+u2+1)*4294967296^m:=by
  rw[e2,Nat.mul_comm _ (4294967296^m),show(u0*4294967296+u1)*4294967296+u2+1=(u2+4294967296*(u1+4294967296*u0))+1 by omega,Nat.mul_succ]
  omega
 have hA:=div_le_digit hqv hK hU
 have hB:q*v1≤u0*4294967296+u1:=by
  rw[Nat.mul_add,←Nat.mul_assoc] at hA
  omega
 refine⟨hq,hA,(Nat.le_div_iff_mul_le (by omega)).2 hB,?_⟩
 have h9:=top_bound e2 e1 l1 b1 hlt
 clear hA hB hK hU e1 e2
 omega
theorem est_ok {u v:List Nat} {m:Nat} (hv:v.length=m+2) (hu:u.length=m+3) (wu:W32 u) (wv:W32 v) (hlt:vl u<4294967296*vl v) (htop:2147483648≤v.getD (m+1) 0):vl u/vl v≤est u v∧est u v<4294967296:=by
 obtain⟨h1,h2,h3,h4⟩:=est_facts hv hu wu wv hlt htop
 unfold est topW
 rw[hv,show m+2-1=m+1 by omega,show m+2-2=m by omega]
 have hT:=(Nat.div_add_mod' (u.getD (m+2) 0*4294967296+u.getD (m+1) 0) (v.getD (m+1) 0)).symm
 exact⟨estF_lo h1 hT h2 h3,estF_hi hT h4⟩
end Go.Proofs.YtfengpdaocgcnaaGreatDoor
