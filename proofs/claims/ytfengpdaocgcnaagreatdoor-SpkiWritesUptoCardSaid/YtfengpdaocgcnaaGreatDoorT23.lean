/- Whole numbers of any size (bignum): products, shifts, lengths. Knuth's digit once more: at most one too great; a multiple taken away in place; added back. Plain Lean. -/
import Derived.Test.YtfengpdaocgcnaaGreatDoorT20
import Derived.Test.YtfengpdaocgcnaaGreatDoorT22
import Derived.Test.YtfengpdaocgcnaaGreatDoorT21
namespace Go.Proofs.YtfengpdaocgcnaaGreatDoor
open Nat (reduceMul reduceLeDiff reduceEqDiff reduceLT reduceAdd reduceSub reduceDiv)
open Int (reduceToNat reducePow)
open Go.RowKit
set_option linter.unusedSimpArgs false
set_option maxRecDepth 100000
theorem bmul_fn (J:Inv) (x y:List Nat) (ha:x.length≤67108864) (hb:y.length≤67108864) (wx:W32 x) (wy:W32 y):Fn Tryz.prog J 233 false [wV x,wV y] (wV (dg (vl x*vl y))):=by
 refine fnI Tryz.func233 rfl (by kernel_rfl) (wV_cl _) (SBt_ok J) ?_
 unfold Tryz.f233
 simp only[bQ,reduceEqDiff,reduceAdd,↓reduceIte,reduceCtorEq,SBt]
 refine⟨fun h=> ?_,fun h=>⟨by constructor<;>omega,by omega,by omega,by omega,?_⟩⟩
 ·have h0:vl x*vl y=0:=by
   simp only[Bool.or_eq_true,beq_iff_eq] at h
   rcases h with h|h
   ·rw[List.length_eq_zero_iff.1 (show x.length=0 by omega)];exact Nat.zero_mul _
   ·rw[List.length_eq_zero_iff.1 (show y.length=0 by omega)];exact Nat.mul_zero _
  rw[h0,dg_zero]
  rfl
 rw[show((x.length:Int)+y.length).toNat=x.length+y.length by omega]
 refine LoopC.intro (α:=Nat×List Nat) (fun p=>p.1≤x.length∧MulI x y p.2 p.1 0 0) (fun p=>⟨[(0,wV x),(1,wV y),(5, .ro (.r 0)),(6, .i p.1)],[(0, .row 156 (wV p.2))],1⟩) (fun p=>x.length-p.1) (0,List.replicate (x.length+y.length) 0) ⟨by omega, .zero x y⟩ ?_ ?_
 ·simp only[bQ,reduceLeDiff,reduceEqDiff,↓reduceIte,reduceCtorEq]
  exact rfl
 ·rintro⟨i,L⟩ ⟨h1,h2⟩
  have h2:MulI x y L i 0 0:=h2
  simp only at h1
  have e0:=h2.len
  simp only[↓bD,bQ,reduceEqDiff,↓reduceIte,reduceCtorEq,SBtf,e0]
  refine⟨fun hi=> ?_,fun hi=> ?_⟩
  ·have hi:i<x.length:=by simpa using hi
   refine LoopC.intro (α:=Nat×List Nat×Nat) (fun p=>p.1≤y.length∧MulI x y p.2.1 i p.1 p.2.2) (fun p=>⟨[(0,wV x),(1,wV y),(5, .ro (.r 0)),(6, .i i),(7, .val (.int .u64 p.2.2)),(8, .i p.1)],[(0, .row 156 (wV p.2.1))],1⟩) (fun p=>y.length-p.1) (0,L,0) ⟨by omega,h2⟩ ?_ ?_
   ·simp only[bQ,reduceLeDiff,reduceEqDiff,↓reduceIte,reduceCtorEq]
    exact⟨rfl,rfl⟩
   ·rintro⟨j,M,c⟩ ⟨h3,h4⟩
    have h4:MulI x y M i j c:=h4
    simp only at h3
    have e1:=h4.len
    have t1:((i:Int)+j).toNat=i+j:=by omega
    have t2:((i:Int)+y.length).toNat=i+y.length:=by omega
    simp only[↓bD,bQ,reduceLeDiff,reduceEqDiff,reduceLT,↓reduceIte,reduceCtorEq,reduceToNat,reducePow,e1,t1,t2]
    refine⟨fun hj=> ?_,fun hj=> ?_⟩
    ·have hj:j<y.length:=by simpa using hj
     have hb:=mul_bound h4.c1 (wx.get i) (wy.get j) (h4.w.get (i+j))
     have b1:=wx.get i
     have b2:=wy.get j
     have b3:=h4.w.get (i+j)
     have hst:=h4.step wx wy hi hj
     refine⟨by omega,by omega,by omega,by omega,by constructor<;>omega,by omega,by omega,by omega,by constructor<;>omega,by omega,by omega,by omega,by omega,by constructor<;>omega,?_⟩
     refine Again.intro (j+1,M.set (i+j) ((c+(x.getD i 0*y.getD j 0+M.getD (i+j) 0))%4294967296),(c+(x.getD i 0*y.getD j 0+M.getD (i+j) 0))/4294967296) ⟨hj,hst⟩ (by simp only;omega) ?_
     simp only[bQ,reduceLeDiff,reduceEqDiff,↓reduceIte,reduceCtorEq]
     rw[wr64n (n:=x.getD i 0) (by omega),wr64n (n:=y.getD j 0) (by omega),wr64n (n:=M.getD (i+j) 0) (by omega)]
     simp only[←Int.natCast_mul]
     generalize x.getD i 0*y.getD j 0=u at *
     simp(disch:=omega) only[wr64n,←Int.natCast_add,w32_nat]
     exact⟨⟨by omega,by omega⟩,trivial⟩
    ·have hjj:j=y.length:=by simp at hj;omega
     subst hjj
     refine⟨by constructor<;>omega,by omega,by omega,by omega,by constructor<;>omega,?_⟩
     refine Again.intro (i+1,M.set (i+y.length) c) ⟨hi,h4.next hi⟩ (by simp only;omega) ?_
     simp only[bQ,reduceLeDiff,reduceEqDiff,↓reduceIte,reduceCtorEq]
     rw[w32_nat,Nat.mod_eq_of_lt h4.c1]
     exact⟨by omega,rfl⟩
  ·obtain rfl:i=x.length:=by simp at hi;omega
   rw[h2.fin]
   exact⟨by omega,h2.w,rfl⟩
theorem twin_fn (J:Inv) (x:List Nat) (hx:x.length≤67108864):Fn Tryz.prog J 269 false [wV x] (wV x):=by
 refine fnI Tryz.func269 rfl (by kernel_rfl) (wV_cl _) (S0_ok J) ?_
 unfold Tryz.f269
 simp only[bQ,↓reduceIte,reduceCtorEq,S0]
 omega
theorem length_fn (J:Inv) (x:List Nat) (hx:Pr x):Fn Tryz.prog J 226 false [wV x] (.i (bl (vl x))):=by
 refine fnI Tryz.func226 rfl (by kernel_rfl) rfl (S0_ok J) ?_
 unfold Tryz.f226
 simp only[bQ,reduceEqDiff,reduceLT,↓reduceIte,reduceCtorEq,S0]
 have hw:=hx.w
 have hl:=hx.len
 refine⟨fun h=> ?_,fun h=> ?_⟩
 ·rw[List.length_eq_zero_iff.1 (show x.length=0 by rw[beq_iff_eq] at h;omega),show vl []=0 from rfl,bl_zero];rfl
 ·have h0:x.length≠0:=by rw[beq_eq_false_iff_ne] at h;omega
  have t1:((x.length:Int)-1).toNat=x.length-1:=by omega
  rw[t1]
  have b1:=hw.get (x.length-1)
  refine⟨by constructor<;>omega,by omega,by omega,?_⟩
  have ht0:x.getD (x.length-1) 0≠0:=by
   have h2:vl x≠0:=fun e=>h0 (by rw[hx.eq,e,dg_zero];rfl)
   have:=dg_getD_last h2
   rwa [←hx.eq] at this
  have hbl:bl (vl x)=32*(x.length-1)+bl (x.getD (x.length-1) 0):=by
   have e:=bl_top (l:=x.take (x.length-1)) (hw.take _) ht0
   rw[List.length_take,Nat.min_eq_left (by omega)] at e
   rw[←e]
   congr 1
   rw[vl_snoc,List.length_take,Nat.min_eq_left (by omega)]
   have:=vl_take_succ x (x.length-1)
   rwa [show x.length-1+1=x.length by omega,List.take_length] at this
  generalize hT:x.getD (x.length-1) 0=T at *
  have h32:bl T≤32:=bl_le_iff.2 (by omega)
  refine LoopC.intro (α:=Nat) (fun k=>k≤bl T∧bl T=k+bl (T/2^k)) (fun k=>⟨[(0,wV x),(3, .i k),(4, .val (.int .u32 (T/2^k:Nat)))],[],0⟩) (fun k=>bl T-k) 0 ⟨Nat.zero_le _,by rw[Nat.pow_zero,Nat.div_one,Nat.zero_add]⟩ ?_ ?_
  ·simp only[bQ,reduceLeDiff,reduceEqDiff,↓reduceIte,reduceCtorEq]
   rw[Nat.pow_zero,Nat.div_one]
   exact⟨rfl,rfl⟩
  ·rintro k ⟨k1,k2⟩
   simp only[↓bD,bQ,reduceLeDiff,reduceEqDiff,↓reduceIte,reduceCtorEq,reduceToNat,reducePow]
   refine⟨fun hb=> ?_,fun hb=> ?_⟩
   ·have hz:T/2^k≠0:=by rw[Bool.not_eq_true',beq_eq_false_iff_ne] at hb;omega
    have hp:=bl_pos hz
    rw[Nat.div_div_eq_div_mul,←Nat.pow_succ,Nat.succ_eq_add_one] at hp
    refine⟨by constructor<;>omega,by omega,Again.intro (k+1) ⟨by omega,by omega⟩ (by omega) ?_⟩
    simp only[bQ,reduceLeDiff,reduceEqDiff,↓reduceIte,reduceCtorEq]
    refine⟨by omega,?_⟩
    rw[show(2:Int)=((2:Nat):Int) from rfl,←Int.natCast_ediv,Nat.div_div_eq_div_mul,←Nat.pow_succ]
   ·have hz:T/2^k=0:=by rw[Bool.not_eq_false',beq_iff_eq] at hb;omega
    rw[hz,bl_zero] at k2
    exact⟨by constructor<;>omega,by constructor<;>omega,by constructor<;>omega,by omega⟩
theorem two_get {F:List Nat} {c i:Nat} {R:List Nat} (hi:F.length=i):(F++c::R).getD i 0=c:=by
 subst hi
 simp[List.getD_eq_getElem?_getD]
theorem two_get1 {F:List Nat} {c n i:Nat} (hi:F.length=i):(F++c::List.replicate n 0).getD (i+1) 0=0:=by
 subst hi
 rw[List.getD_eq_getElem?_getD,List.getElem?_append_right (by omega),show F.length+1-F.length=0+1 by omega,List.getElem?_cons_succ]
 cases n<;>simp
theorem one_set {F:List Nat} {c i z:Nat} {R:List Nat} (hi:F.length=i):(F++c::R).set i z=F++z::R:=by
 subst hi
 rw[List.set_append_right _ _ (Nat.le_refl _),Nat.sub_self,List.set_cons_zero]
theorem left_fn (J:Inv) (x:List Nat) (s:Nat) (hs:s<32) (hx:x.length≤67108864) (wx:W32 x):Fn Tryz.prog J 151 false [wV x, .val (.int .u64 s)] (wV (dg (vl x*2^s))):=by
 refine fnI Tryz.func151 rfl (by kernel_rfl) (wV_cl _) (SBt_ok J) ?_
 unfold Tryz.f151
 have tw:wr .i64 (wr .u64 ((s:Int)/32))=0:=by rw[show(s:Int)/32=0 by omega,wr_eq,wr_eq];rfl
 have ts:(s:Int)%32=s:=by omega
 simp only[bQ,reduceEqDiff,reduceAdd,↓reduceIte,reduceCtorEq,SBt,tw,ts,Int.add_zero]
 refine⟨fun h=> ?_,fun h=> ?_⟩
 ·rw[List.length_eq_zero_iff.1 (show x.length=0 by rw[beq_iff_eq] at h;omega),show vl []=0 from rfl,Nat.zero_mul,dg_zero];rfl
 ·have h0:x.length≠0:=by rw[beq_eq_false_iff_ne] at h;omega
  refine⟨by omega,by omega,by omega,by omega,by constructor<;>omega,by constructor<;>omega,by omega,by omega,by omega,?_⟩
  rw[show((x.length:Int)+1).toNat=x.length+1 by omega]
  refine LoopC.intro (α:=Nat) (fun i=>i≤x.length) (fun i=>⟨[(0,wV x),(5, .i 0),(6, .val (.int .u64 s)),(7, .ro (.r 0)),(8, .i i)],[(0, .row 156 (wV (fw i (vl (x.take i)*2^s)++cyU x s i::List.replicate (x.length-i) 0)))],1⟩) (fun i=>x.length-i) 0 (Nat.zero_le _) ?_ ?_
  ·simp only[bQ,reduceLeDiff,reduceEqDiff,↓reduceIte,reduceCtorEq,fw,cyU]
   rw[show vl []=0 from rfl,Nat.zero_mul,Nat.zero_div,←List.replicate_succ]
   exact⟨rfl,rfl⟩
  ·intro i hi0
   have e0:(fw i (vl (x.take i)*2^s)++cyU x s i::List.replicate (x.length-i) 0).length=x.length+1:=by
    rw[List.length_append,fw_len,List.length_cons,List.length_replicate];omega
   have gl:=two_get (c:=cyU x s i) (R:=List.replicate (x.length-i) 0) (fw_len i (vl (x.take i)*2^s))
   have sl: ∀z,(fw i (vl (x.take i)*2^s)++cyU x s i::List.replicate (x.length-i) 0).set i z=fw i (vl (x.take i)*2^s)++z::List.replicate (x.length-i) 0:=fun z=>one_set (fw_len _ _)
   have gl2: ∀z,(fw i (vl (x.take i)*2^s)++z::List.replicate (x.length-i) 0).getD (i+1) 0=0:=fun z=>two_get1 (fw_len _ _)
   have e2: ∀z,(fw i (vl (x.take i)*2^s)++z::List.replicate (x.length-i) 0).length=x.length+1:=fun z=>by
    rw[List.length_append,fw_len,List.length_cons,List.length_replicate];omega
   have t9:((i:Int)+1).toNat=i+1:=by omega
   simp only[↓bD,bQ,reduceLeDiff,reduceEqDiff,reduceLT,↓reduceIte,reduceCtorEq,reduceToNat,reducePow,SBtf,e0,e2,gl,sl,gl2,t9,Int.add_zero]
   refine⟨fun hi=> ?_,fun hi=> ?_⟩
   ·have hi:i<x.length:=by simpa using hi
    have hw:=up_word wx hs i
    have hc:=cyU_step wx hs i
    have hcl:=cyU_lt wx s i
    have b1:=wx.get i
    have hp:2^s≤2^31:=Nat.pow_le_pow_right (by omega) (by omega)
    have hxs:x.getD i 0*2^s<18446744073709551616:=by
     have:=Nat.mul_le_mul (show x.getD i 0≤4294967295 by omega) hp
     omega
    have h1:x.getD i 0*2^s%4294967296<4294967296:=Nat.mod_lt _ (by omega)
    have e3:wr .u64 (wr .u64 (x.getD i 0:Nat)*2^s)=((x.getD i 0*2^s:Nat):Int):=by
     rw[wr64n (by omega),show((x.getD i 0:Nat):Int)*2^s=((x.getD i 0*2^s:Nat):Int) by simp,wr64n hxs]
    have key:w32 (bt .or .u32 (cyU x s i:Nat) (wr .u32 (wr .u64 (wr .u64 (x.getD i 0:Nat)*2^s))))=(x.getD i 0*2^s%4294967296)|||cyU x s i:=by
     rw[e3,wr32m,bt_eq,bits_or32 (by omega) h1,w32_nat,Nat.mod_eq_of_lt (Nat.or_lt_two_pow (n:=32) (by omega) h1),Nat.or_comm]
    have hcl2:=cyU_lt wx s (i+1)
    have key2:w32 (bt .or .u32 ((0:Nat):Int) (wr .u32 (wr .u64 (wr .u64 (x.getD i 0:Nat)*2^s)/4294967296)))=cyU x s (i+1):=by
     rw[e3,show((x.getD i 0*2^s:Nat):Int)/4294967296=((x.getD i 0*2^s/4294967296:Nat):Int) by omega,←hc,wr32n (by omega),bt_eq,bits_or32 (by omega) (by omega),w32_nat,Nat.zero_or,Nat.mod_eq_of_lt (by omega)]
    refine⟨by omega,by omega,by omega,by constructor<;>omega,by omega,by omega,by omega,by omega,by omega,by omega,by constructor<;>omega,by constructor<;>omega,by omega,by omega,by omega,by omega,by omega,by omega,by omega,by constructor<;>omega,Again.intro (i+1) hi (by omega) ?_⟩
    simp only[bQ,reduceLeDiff,reduceEqDiff,↓reduceIte,reduceCtorEq]
    rw[if_pos (by omega),key,key2]
    have hr:List.replicate (x.length-i) 0=0::List.replicate (x.length-(i+1)) 0:=by
     rw[show x.length-i=(x.length-(i+1))+1 by omega,List.replicate_succ]
    have s2: ∀z z',(fw i (vl (x.take i)*2^s)++z::List.replicate (x.length-i) 0).set (i+1) z'=fw i (vl (x.take i)*2^s)++[z]++z'::List.replicate (x.length-(i+1)) 0:=fun z z'=>by
     rw[List.set_append_right _ _ (by rw[fw_len];omega),fw_len,show i+1-i=0+1 by omega,List.set_cons_succ,hr,List.set_cons_zero,List.append_assoc];rfl
    rw[s2,hw]
    exact⟨by omega,rfl⟩
   ·obtain rfl:i=x.length:=by simp at hi;omega
    rw[Nat.sub_self,List.replicate_zero,List.take_length]
    have e3:vl (fw x.length (vl x*2^s)++[cyU x s x.length])=vl x*2^s:=by
     rw[vl_snoc,fw_len,fw_vl,cyU,List.take_length,Nat.add_comm]
     exact Nat.div_add_mod _ _
    rw[e3]
    have:=cyU_lt wx s x.length
    have hp:2^s≤2^31:=Nat.pow_le_pow_right (by omega) (by omega)
    exact⟨by omega,(fw_w _ _).app (W32.one (by omega)),rfl⟩
theorem right_fn (J:Inv) (x:List Nat) (s:Nat) (hs:s<32) (hx:x.length≤67108864) (wx:W32 x):Fn Tryz.prog J 279 false [wV x, .val (.int .u64 s)] (wV (dg (vl x/2^s))):=by
 refine fnI Tryz.func279 rfl (by kernel_rfl) (wV_cl _) (SBt_ok J) ?_
 unfold Tryz.f279
 have tw:wr .i64 (wr .u64 ((s:Int)/32))=0:=by rw[show(s:Int)/32=0 by omega,wr_eq,wr_eq];rfl
 have ts:(s:Int)%32=s:=by omega
 simp only[bQ,reduceEqDiff,reduceAdd,↓reduceIte,reduceCtorEq,SBt,tw,ts,Int.sub_zero]
 refine⟨by omega,by omega,by omega,by omega,fun h=> ?_,fun h=> ?_⟩
 ·rw[List.length_eq_zero_iff.1 (show x.length=0 by rw[decide_eq_true_eq] at h;omega),show vl []=0 from rfl,Nat.zero_div,dg_zero];rfl
 ·have h0:x.length≠0:=by rw[decide_eq_false_iff_not] at h;omega
  refine⟨by constructor<;>omega,by omega,by omega,by omega,?_⟩
  refine LoopC.intro (α:=Nat) (fun i=>i≤x.length) (fun i=>⟨[(0,wV x),(5, .i 0),(6, .val (.int .u64 s)),(7, .ro (.r 0)),(8, .i i)],[(0, .row 156 (wV (fw i (vl x/2^s)++List.replicate (x.length-i) 0)))],1⟩) (fun i=>x.length-i) 0 (Nat.zero_le _) ?_ ?_
  ·simp only[bQ,reduceLeDiff,reduceEqDiff,↓reduceIte,reduceCtorEq,fw]
   rfl
  ·intro i hi0
   have e0:(fw i (vl x/2^s)++List.replicate (x.length-i) 0).length=x.length:=by
    rw[List.length_append,fw_len,List.length_replicate];omega
   have t9:((i:Int)+1).toNat=i+1:=by omega
   simp only[↓bD,bQ,reduceLeDiff,reduceEqDiff,reduceLT,↓reduceIte,reduceCtorEq,reduceToNat,reducePow,SBtf,e0,t9,Int.add_zero]
   refine⟨fun hi=> ?_,fun hi=> ?_⟩
   ·have hi:i<x.length:=by simpa using hi
    have hd:=down_word wx i s (by omega)
    have b1:=wx.get i
    have b2:=wx.get (i+1)
    have sl: ∀z,(fw i (vl x/2^s)++List.replicate (x.length-i) 0).set i z=fw i (vl x/2^s)++[z]++List.replicate (x.length-(i+1)) 0:=fun z=>by
     have:=set_zeros (fw i (vl x/2^s)) (x.length-(i+1)) z
     rwa [fw_len,show x.length-(i+1)+1=x.length-i by omega] at this
    have ez: ∀z,z=vl x/2^s/4294967296^i%4294967296→fw i (vl x/2^s)++[z]=fw (i+1) (vl x/2^s):=fun z hz=>by rw[fw_succ,hz]
    refine⟨by constructor<;>omega,by omega,by omega,by constructor<;>omega,by constructor<;>omega,fun hj=>⟨by constructor<;>omega,by constructor<;>omega,by omega,by simpa using hj,by omega,by omega,by omega,by omega,hi,by constructor<;>omega,Again.intro (i+1) hi (by omega) ?_⟩,fun hj=>⟨by omega,by omega,by omega,hi,by constructor<;>omega,Again.intro (i+1) hi (by omega) ?_⟩⟩
    ·simp only[bQ,reduceLeDiff,reduceEqDiff,↓reduceIte,reduceCtorEq]
     rw[if_pos (by omega),sl,ez]
     ·exact⟨by omega,rfl⟩
     ·rw[wr64n (show x.getD i 0<18446744073709551616 by omega),wr64n (show x.getD (i+1) 0<18446744073709551616 by omega),show((x.getD (i+1) 0:Nat):Int)*4294967296=((2^32*x.getD (i+1) 0:Nat):Int) by omega,wr64n (by omega),bt_eq,bits_or64 (by omega) (by omega),or_add (by omega),show(2:Int)^s=((2^s:Nat):Int) by simp,←Int.natCast_ediv,w32_nat,←hd]
    ·have hz:x.getD (i+1) 0=0:=getD_ge (by rw[decide_eq_false_iff_not] at hj;omega)
     rw[hz,Nat.mul_zero,Nat.add_zero] at hd
     simp only[bQ,reduceLeDiff,reduceEqDiff,↓reduceIte,reduceCtorEq]
     rw[if_pos (by omega),sl,ez]
     ·exact⟨by omega,rfl⟩
     ·rw[wr64n (show x.getD i 0<18446744073709551616 by omega),show(2:Int)^s=((2^s:Nat):Int) by simp,←Int.natCast_ediv,w32_nat,←hd]
   ·obtain rfl:i=x.length:=by simp at hi;omega
    have e3:vl (fw x.length (vl x/2^s))=vl x/2^s:=by
     rw[fw_vl,Nat.mod_eq_of_lt (Nat.lt_of_le_of_lt (Nat.div_le_self _ _) (vl_lt wx))]
    rw[Nat.sub_self,List.replicate_zero,List.append_nil,e3]
    exact⟨by omega,fw_w _ _,rfl⟩
theorem estF_le {v1 v2 u2:Nat} (h2:v2<4294967296): ∀{d r T:Nat},T=d*v1+r→estF v1 v2 u2 d r<4294967296→estF v1 v2 u2 d r*(v1*4294967296+v2)≤T*4294967296+u2
 |0,r,T,_,_=>by rw[estF,Nat.zero_mul];exact Nat.zero_le _
 |d+1,r,T,hT,hlt=>by
  rw[estF] at hlt⊢
  have e:(d+1)*v1=d*v1+v1:=Nat.succ_mul d v1
  split at hlt
  ·rename_i hc
   rw[if_pos hc]
   split at hlt
   ·rename_i hb
    rw[if_pos hb]
    have h3:d*v2≤4294967296*4294967296:=Nat.mul_le_mul (by omega) (by omega)
    rw[Nat.mul_add,←Nat.mul_assoc]
    generalize d*v1=w at *
    generalize d*v2=z at *
    omega
   ·rename_i hb
    rw[if_neg hb]
    exact estF_le h2 (by omega) hlt
  ·rename_i hc
   rw[if_neg hc]
   have h3: ¬(r*4294967296+u2<(d+1)*v2):=fun h=>hc (.inr h)
   rw[Nat.mul_add,←Nat.mul_assoc]
   generalize (d+1)*v1=w at *
   generalize (d+1)*v2=z at *
   omega
theorem est_hi_arith {B K U V a b U' V' g q:Nat} (e1:V=b+K*V') (e2:U=a+K*U') (l1:b<K) (h:g*V'≤U') (hq:U<(q+1)*V) (hV:B*K≤V) (hg:g≤B):g≤q+1:=by
 rcases Nat.lt_or_ge (q+1) g with h1|h1
 ·exfalso
  have h2:(q+2)*V≤g*V:=Nat.mul_le_mul_right _ h1
  have h3:K*(g*V')≤K*U':=Nat.mul_le_mul_left _ h
  have h4:g*b≤g*K:=Nat.mul_le_mul_left _ (Nat.le_of_lt l1)
  have h5:g*K≤B*K:=Nat.mul_le_mul_right _ hg
  have h6:g*V=g*b+K*(g*V'):=by rw[e1,Nat.mul_add,Nat.mul_left_comm]
  have h7:(q+2)*V=(q+1)*V+V:=by rw[show q+2=(q+1)+1 by omega,Nat.succ_mul]
  omega
 ·exact h1
theorem three_words (x K B a b c:Nat):x+K*a+K*B*b+K*B*B*c=x+K*((c*B+b)*B+a):=by grind
theorem est_hi {u v:List Nat} {m:Nat} (hv:v.length=m+2) (hu:u.length=m+3) (wu:W32 u) (wv:W32 v) (hlt:vl u<4294967296*vl v) (htop:2147483648≤v.getD (m+1) 0):est u v≤vl u/vl v+1:=by
 obtain⟨_,hb⟩:=est_ok hv hu wu wv hlt htop
 have hV0:0<vl v:=by
  rcases Nat.eq_zero_or_pos (vl v) with h|h
  ·rw[h,Nat.mul_zero] at hlt;omega
  ·exact h
 have e1:=top2 hv
 have e2:vl u=vl (u.take m)+4294967296^m*((u.getD (m+2) 0*4294967296+u.getD (m+1) 0)*4294967296+u.getD m 0):=by
  have h1:=vl_take_succ u m
  have h2:vl (u.take (m+2))=_:=vl_take_succ u (m+1)
  have h3:=vl_take_succ u (m+2)
  rw[show m+2+1=u.length by omega,List.take_length] at h3
  rw[h3,h2,h1,Nat.pow_succ,Nat.pow_succ]
  exact three_words _ _ _ _ _ _
 have l1:vl (v.take m)<4294967296^m:=vl_take_lt wv m
 have hest:est u v=estF (v.getD (m+1) 0) (v.getD m 0) (u.getD m 0) (topW u v.length/v.getD (m+1) 0) (topW u v.length%v.getD (m+1) 0):=by
  unfold est
  rw[hv];rfl
 have hT:topW u v.length=u.getD (m+2) 0*4294967296+u.getD (m+1) 0:=by unfold topW;rw[hv];rfl
 have hle:=estF_le (v1:=v.getD (m+1) 0) (u2:=u.getD m 0) (wv.get m) (d:=topW u v.length/v.getD (m+1) 0) (r:=topW u v.length%v.getD (m+1) 0) (T:=topW u v.length) (by rw[Nat.div_add_mod']) (by rw[←hest];exact hb)
 rw[←hest,hT] at hle
 have hq:vl u<(vl u/vl v+1)*vl v:=by
  have:=Nat.lt_div_mul_add (a:=vl u) hV0
  rw[Nat.succ_mul];omega
 refine est_hi_arith (B:=4294967296) (K:=4294967296^m) (b:=vl (v.take m)) (a:=vl (u.take m)) (V':=v.getD (m+1) 0*4294967296+v.getD m 0) ?_ e2 l1 hle hq ?_ (Nat.le_of_lt hb)
 ·rw[e1];congr 2;omega
 ·rw[e1,Nat.mul_comm]
  refine Nat.le_trans (Nat.mul_le_mul_left _ ?_) (Nat.le_add_left _ _)
  omega
structure SubM (w v:List Nat) (g:Nat) (o:List Nat) (i d:Nat):Prop where
 len:o.length=i
 w32:W32 o
 d1:d≤1
 eq:vl (w.take i)+4294967296^i*(cyM v g i+d)=vl o+vl (v.take i)*g
theorem SubM.zero (w v:List Nat) (g:Nat):SubM w v g [] 0 0:=⟨rfl,W32.nil,by omega,by simp[cyM,vl]⟩
def subW (x c d:Nat):Nat:=(x+8589934592-c%4294967296-d)%4294967296
theorem subW_eq {x c d:Nat} (hx:x<4294967296) (hd:d≤1):x+4294967296*brw x (c%4294967296+d)=subW x c d+c%4294967296+d:=by
 unfold subW brw
 have:=Nat.mod_lt c (show 0<4294967296 by omega)
 split<;>omega
theorem SubM.step {w v o:List Nat} {g i d:Nat} (h:SubM w v g o i d) (ww:W32 w):SubM w v g (o++[subW (w.getD i 0) (cyM v g i+v.getD i 0*g) d]) (i+1) (brw (w.getD i 0) ((cyM v g i+v.getD i 0*g)%4294967296+d)):=by
 have h1:=ww.get i
 have h2:=subW_eq (c:=cyM v g i+v.getD i 0*g) h1 h.d1
 refine⟨by rw[List.length_append,h.len,List.length_singleton],h.w32.app (W32.one (Nat.mod_lt _ (by omega))),brw_le _ _,?_⟩
 rw[cyM_succ,vl_take_succ w,vl_take_succ v,vl_snoc,h.len,Nat.add_mul,Nat.pow_succ]
 have h3:=h.eq
 have h4:=Nat.div_add_mod (cyM v g i+v.getD i 0*g) 4294967296
 generalize (cyM v g i+v.getD i 0*g)/4294967296=q at *
 generalize (cyM v g i+v.getD i 0*g)%4294967296=r at *
 generalize brw (w.getD i 0) (r+d)=e at *
 generalize subW (w.getD i 0) (cyM v g i+v.getD i 0*g) d=t at *
 generalize w.getD i 0=x at *
 rw[show 4294967296^i*v.getD i 0*g=4294967296^i*(v.getD i 0*g) from Nat.mul_assoc _ _ _]
 generalize v.getD i 0*g=y at *
 generalize vl (v.take i)*g=z at *
 generalize cyM v g i=c at *
 have h5:4294967296^i*(x+4294967296*(q+e))=4294967296^i*(t+(c+y)+d):=by congr 1;omega
 generalize 4294967296^i=K at *
 simp only[Nat.mul_add,Nat.mul_assoc] at h3 h5⊢
 omega
theorem SubM.fin {w v o:List Nat} {g d n:Nat} (h:SubM w v g o n d) (ww:W32 w) (hw:w.length=n+1) (hv:v.length=n):
  vl w+4294967296^(n+1)*brw (w.getD n 0) (cyM v g n+d)=vl (o++[(w.getD n 0+8589934592-cyM v g n-d)%4294967296])+vl v*g∨4294967296≤cyM v g n:=by
 rcases Nat.lt_or_ge (cyM v g n) 4294967296 with hc|hc
 ·refine .inl ?_
  have h1:=ww.get n
  have h3:=h.eq
  have h5:=vl_take_succ w n
  rw[show n+1=w.length from hw.symm,List.take_length] at h5
  rw[vl_snoc,h.len,h5]
  rw[show v.take n=v by rw[←hv];exact List.take_length] at h3
  have hd:=h.d1
  have h2:w.getD n 0+4294967296*brw (w.getD n 0) (cyM v g n+d)=(w.getD n 0+8589934592-cyM v g n-d)%4294967296+cyM v g n+d:=by
   unfold brw
   split<;>omega
  generalize brw (w.getD n 0) (cyM v g n+d)=e at *
  generalize (w.getD n 0+8589934592-cyM v g n-d)%4294967296=t at *
  generalize w.getD n 0=x at *
  generalize vl v*g=z at *
  generalize cyM v g n=c at *
  have h6:4294967296^n*(x+4294967296*e)=4294967296^n*(t+c+d):=by rw[h2]
  rw[Nat.pow_succ]
  generalize 4294967296^n=K at *
  simp only[Nat.mul_add,Nat.mul_assoc] at h3 h6⊢
  omega
 ·exact .inr hc
theorem digit_ok {W V g q R K:Nat} (h:W+K*0=R+V*g) (hV:0<V) (hq:q=W/V) (h1:q≤g):g=q∧R=W-q*V:=by
 have h2:g≤W/V:=(Nat.le_div_iff_mul_le hV).2 (by rw[Nat.mul_comm];omega)
 have h3:g=q:=by omega
 subst h3
 rw[Nat.mul_comm g]
 exact⟨rfl,by omega⟩
theorem digit_big {W V g q R K:Nat} (h:W+K*1=R+V*g) (hR:R<K) (hV:0<V) (hq:q=W/V) (h1:g≤q+1):g=q+1∧R+V=W-q*V+K:=by
 have h2:W<V*g:=by omega
 have h3:W/V<g:=(Nat.div_lt_iff_lt_mul hV).2 (by rw[Nat.mul_comm];exact h2)
 have h4:g=q+1:=by omega
 subst h4
 have h5:=Nat.div_mul_le_self W V
 rw[←hq] at h5
 rw[Nat.mul_add,Nat.mul_one,Nat.mul_comm V q] at h
 exact⟨rfl,by omega⟩
theorem getD_snoc {o:List Nat} {x n:Nat} (h:o.length=n):(o++[x]).getD n 0=x:=by subst h;simp[List.getD_eq_getElem?_getD]
theorem digit_back {w o o3:List Nat} {q g n tp c D P:Nat} (hP:P=4294967296^(n+1)) (hfin:vl w+P*1=vl (o++[tp])+D*g) (wo:W32 (o++[tp])) (lo:o.length=n) (hD:0<D) (hq:q=vl w/D) (hg:g≤q+1) (hA:vl o3+4294967296^n*c=vl o+D) (l3:o3.length=n) (w3:W32 o3) (hc:c≤1):
  g=q+1∧vl (o3++[(tp+c)%4294967296])=vl w-q*D:=by
 subst hP
 have h1:=vl_lt wo
 have h2:(o++[tp]).length=n+1:=by rw[List.length_append,lo,List.length_singleton]
 rw[h2] at h1
 obtain⟨f1,f2⟩:=digit_big hfin h1 hD hq hg
 refine⟨f1,?_⟩
 have htp:tp<4294967296:=wo tp (List.mem_append_right _ (List.mem_singleton_self _))
 have h3:=vl_lt (w3.app (W32.one (x:=(tp+c)%4294967296) (Nat.mod_lt _ (by omega))))
 rw[List.length_append,l3,List.length_singleton] at h3
 rw[vl_snoc,l3] at h3⊢
 rw[vl_snoc,lo] at f2 h1
 clear hfin hq hg f1 h2 wo w3
 have h5:=Nat.div_add_mod (tp+c) 4294967296
 have h7:(tp+c)/4294967296≤1:=by omega
 generalize hqq:(tp+c)/4294967296=qq at *
 generalize hrr:(tp+c)%4294967296=rr at *
 have h6:4294967296^n*(4294967296*qq+rr)=4294967296^n*(tp+c):=by rw[h5]
 rw[Nat.pow_succ] at h1 h3 f2
 generalize hE:vl w-q*D=X at *
 generalize 4294967296^n=KK at *
 rw[Nat.mul_add,Nat.mul_add] at h6
 rcases(show qq=0∨qq=1 by omega) with rfl|rfl
 ·exfalso
  simp only[Nat.mul_zero,Nat.zero_add] at h6
  generalize KK*4294967296=Z at *
  generalize KK*rr=a at *
  generalize KK*tp=b at *
  generalize KK*c=d at *
  omega
 ·simp only[Nat.mul_one] at h6
  generalize KK*4294967296=Z at *
  generalize KK*rr=a at *
  generalize KK*tp=b at *
  generalize KK*c=d at *
  omega
theorem LongI.init {N D m s lx x:Nat} (hN:N=x*2^s) (hx:x<4294967296^lx) (hs:s<32) (hm:m+2≤lx) (hD:2147483648*4294967296^(m+1)≤D):LongI N D (m+2) (fw (lx+2) N) [] (lx+2) (lx-m) (lx-m):=by
 have h1:N<4294967296^lx*2147483648:=by
  rw[hN]
  refine Nat.lt_of_lt_of_le ((Nat.mul_lt_mul_right (Nat.pow_pos (by omega))).2 hx) (Nat.mul_le_mul_left _ ?_)
  exact Nat.le_trans (Nat.pow_le_pow_right (by omega) (show s≤31 by omega)) (by omega)
 have h3:4294967296^lx*2147483648≤4294967296^(lx-m)*D:=by
  refine Nat.le_trans ?_ (Nat.mul_le_mul_left _ hD)
  rw[Nat.mul_left_comm,←Nat.pow_add,Nat.mul_comm]
  exact Nat.mul_le_mul_left _ (Nat.pow_le_pow_right (by omega) (by omega))
 have h4:vl (fw (lx+2) N)=N:=by
  rw[fw_vl,Nat.mod_eq_of_lt]
  refine Nat.lt_of_lt_of_le h1 ?_
  rw[Nat.pow_succ,Nat.pow_succ,Nat.mul_assoc]
  exact Nat.mul_le_mul_left _ (by omega)
 refine⟨fw_len _ _,fw_w _ _,by simp,W32.nil,?_,?_,by omega⟩
 ·rw[h4,show vl []=0 from rfl,Nat.zero_mul,Nat.mul_zero,Nat.add_zero]
 ·rw[h4];exact Nat.lt_of_lt_of_le h1 h3
theorem top_word {D m:Nat} (hl:(dg D).length=m+2) (hD:2147483648*4294967296^(m+1)≤D):2147483648≤(dg D).getD (m+1) 0:=by
 have h1:=vl_take_succ (dg D) (m+1)
 rw[show m+1+1=(dg D).length by omega,List.take_length,vl_dg] at h1
 have h2:=vl_take_lt (W32_dg D) (m+1)
 rcases Nat.lt_or_ge ((dg D).getD (m+1) 0) 2147483648 with h3|h3
 ·exfalso
  have h4:4294967296^(m+1)*((dg D).getD (m+1) 0+1)≤4294967296^(m+1)*2147483648:=Nat.mul_le_mul_left _ h3
  rw[Nat.mul_add,Nat.mul_one] at h4
  rw[Nat.mul_comm 2147483648] at hD
  generalize 4294967296^(m+1)*(dg D).getD (m+1) 0=a at *
  generalize 4294967296^(m+1)*2147483648=b at *
  generalize 4294967296^(m+1)=c at *
  omega
 ·exact h3
theorem pow_le_half (k:Nat):4294967296^k≤2147483648*4294967296^k:=Nat.le_mul_of_pos_left _ (by omega)
end Go.Proofs.YtfengpdaocgcnaaGreatDoor
