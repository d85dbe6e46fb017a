/- Numbers modulo another one: the walks of the program's sums, products, powers. Numbers modulo another one: the walk of the inverse by halving and subtracting. A walk that is put together by hand out of pieces that the generator walks. -/
import Derived.Test.YtfengpdaocgcnaaGreatDoorT22
import Derived.Test.YtfengpdaocgcnaaGreatDoorQ17
namespace Go.Proofs.YtfengpdaocgcnaaGreatDoor
open Nat (reduceMul reduceLeDiff reduceEqDiff reduceLT reduceAdd reduceSub reduceDiv)
open Int (reduceToNat reducePow)
open Go.RowKit
set_option linter.unusedSimpArgs false
set_option maxRecDepth 100000
theorem bl_words (n:Nat):(bl n+31)/32=(dg n).length:=by
 rcases Nat.eq_zero_or_pos n with rfl|hp
 ·rw[bl_zero,dg_zero];rfl
 ·have h0:n≠0:=by omega
  have h1:(dg n).length≠0:=fun e=>h0 (dg_eq_nil.1 (List.length_eq_zero_iff.1 e))
  have h2:=dg_hi n
  have h3:=dg_lo h0
  rw[B_pow] at h2 h3
  have h4:=bl_le_iff.2 h2
  have h5: ¬bl n≤32*((dg n).length-1):=fun h=>by have:=bl_le_iff.1 h;omega
  omega
def unL:List V→List (List Nat)
 |[]=>[]
 | .sq _ _ L::r=>unW L::unL r
 |_::r=>[]::unL r
def SGm0f:FuncId→List V→CR:=fun f args=>tab [(92,cW fun a=>cF [a.length≤67108864,W32 a] false (.i (bl (vl a))))] noF f args
def SGm0 (J:Inv):Sig:=⟨J,sdf,SGm0f,noH,0⟩
theorem SGm0_ok (J:Inv):SigOk Tryz.prog (SGm0 J):= .plain (tab_ok (.c (.w fun a=> .z fun⟨c0,c1,_⟩=>bits_fn J a c0 c1)<| .n) noF_ok)
theorem size_fn (J:Inv) (a:List Nat) (ha:a.length≤33554432) (wa:W32 a):Fn Tryz.prog J 259 false [wV a] (.i (dg (vl a)).length):=by
 refine fnI Tryz.func259 rfl (by kernel_rfl) rfl (SGm0_ok J) ?_
 unfold Tryz.f259
 simp only[↓bE,bR,↓reduceIte,reduceCtorEq,SGm0,SGm0f,wV,unW_wds]
 have h:=bl_words (vl a)
 have h2:=trim_len a
 rw[trim_dg wa] at h2
 have h3:bl (vl a)≤32*(dg (vl a)).length:=by
  omega
 refine⟨by omega,wa,by constructor<;>omega,by constructor<;>omega,by omega,?_⟩
 omega
def SGm1f:FuncId→List V→CR:=fun f args=>tab [(259,cW fun a=>cF [a.length≤33554432,W32 a] false (.i (dg (vl a)).length)),
 (92,cW fun a=>cF [a.length≤67108864,W32 a] false (.i (bl (vl a))))] noF f args
def SGm1 (J:Inv):Sig:=⟨J,sdf,SGm1f,noH,0⟩
theorem SGm1_ok (J:Inv):SigOk Tryz.prog (SGm1 J):= .plain (tab_ok (.c (.w fun a=> .z fun⟨c0,c1,_⟩=>size_fn J a c0 c1)<|
 .c (.w fun a=> .z fun⟨c0,c1,_⟩=>bits_fn J a c0 c1)<| .n) noF_ok)
structure Mods (l:List (List Nat)):Prop where
 ok: ∀a∈l,a.length≤33554432∧W32 a∧(dg (vl a)).length≤128
 n0:l≠[]
 top:2≤vl (l.getD (l.length-1) [])
theorem wVs_get (l:List (List Nat)) (i:Nat):(l.map wV).getD i (.sq 1 (.val (.int .u32 0)) [])=wV (l.getD i []):=by
 rw[List.getD_eq_getElem?_getD,List.getElem?_map,List.getD_eq_getElem?_getD]
 cases l[i]?<;>rfl
theorem wrong_fn (J:Inv) (l:List (List Nat)) (hl:Mods l) (hn:l.length≤1000):Fn Tryz.prog J 237 false [.sq 1 (wV []) (l.map wV)] (.i 0):=by
 refine fnI Tryz.func237 rfl (by kernel_rfl) rfl (SGm1_ok J) ?_
 unfold Tryz.f237
 simp only[bR,↓reduceIte,reduceCtorEq,SGm1,wV]
 refine LoopC.intro (α:=Nat) (fun k=>k≤l.length) (fun k=>⟨[(0, .sq 1 (wV []) (l.map wV)),(5, .sq 1 (wV []) (l.map wV)),(6, .i l.length),(7, .i k)],[],0⟩) (fun k=>l.length-k) 0 (Nat.zero_le _) ?_ ?_
 ·simp only[bR,reduceLeDiff,reduceEqDiff,↓reduceIte,reduceCtorEq,wV,wds_nil]
  trivial
 ·intro k hk
  simp only[↓bE,bR,reduceEqDiff,reduceLT,↓reduceIte,reduceCtorEq,SGm1f,wV,unW_wds,wds_nil,wVs_get]
  refine⟨fun hb=> ?_,fun hb=> ?_⟩
  ·have hk2:k<l.length:=by simpa using hb
   have hm:l.getD k []∈l:=by
    rw[List.getD_eq_getElem?_getD,List.getElem?_eq_getElem hk2]
    exact List.getElem_mem hk2
   obtain⟨q1,q2,q3⟩:=hl.ok _ hm
   refine⟨by omega,by omega,q1,q2,fun h=>absurd h (by rw[decide_eq_true_eq];omega),fun _=>⟨by constructor<;>omega,Again.intro (k+1) hk2 (by show l.length-(k+1)<l.length-k;omega) ?_⟩⟩
   simp only[bR,reduceLeDiff,reduceEqDiff,↓reduceIte,reduceCtorEq]
   omega
  ·have h0:l.length≠0:=fun e=>hl.n0 (List.length_eq_zero_iff.1 e)
   rw[show((l.length:Int)-1).toNat=l.length-1 by omega]
   have hm:l.getD (l.length-1) []∈l:=by
    rw[List.getD_eq_getElem?_getD,List.getElem?_eq_getElem (by omega)]
    exact List.getElem_mem _
   obtain⟨q1,q2,q3⟩:=hl.ok _ hm
   have h2:=hl.top
   have h3: ¬bl (vl (l.getD (l.length-1) []))≤1:=fun h=>by have:=bl_le_iff.1 h;omega
   refine⟨by constructor<;>omega,by omega,by omega,by omega,q2,fun h=>absurd h (by rw[decide_eq_true_eq];omega),fun _=>trivial⟩
def SGm2f:FuncId→List V→CR:=fun f args=>tab [(260,cW fun a=>cW fun d=>cF [a.length≤33554432,d.length≤33554432,W32 a,W32 d,vl d≠0] false (.tu [wV (dg (vl a/vl d)),wV (dg (vl a%vl d)), .i 0])),
 (163,cW fun a=>cW fun b=>cF [a.length≤67108864,b.length≤67108864,W32 a,W32 b] false (wV (dg (vl a+vl b)))),
 (261,cW fun a=>cW fun b=>cF [a.length≤67108864,b.length≤67108864,W32 a,W32 b] false (.tu [wV (dg (vl a-vl b)), .bb (decide (vl b≤vl a))])),
 (239,cW fun a=>cW fun b=>cF [a.length≤67108864,b.length≤67108864,W32 a,W32 b] false (wV (dg (vl a*vl b)))),
 (99,cW fun a=>cW fun b=>cF [a.length≤1073741824,b.length≤1073741824,W32 a,W32 b] false (.i (cmp3 (vl a) (vl b)))),
 (165,cW fun a=>cI .i64 fun i=>cF [I64 i,W32 a] false (.bb (decide (0≤i)&&tb (vl a) i.toNat))),
 (162,cW fun a=>cI .i64 fun k=>cF [0≤k,k<32,a.length≤67108864,W32 a] false (wV (dg (vl a/2^k.toNat))))] SGm1f f args
def SGm2 (J:Inv):Sig:=⟨J,sdf,SGm2f,noH,0⟩
theorem SGm2_ok (J:Inv):SigOk Tryz.prog (SGm2 J):= .plain (tab_ok (.c (.w fun a=> .w fun d=> .z fun⟨c0,c1,c2,c3,c4,_⟩=>divmod_fn J a d c0 c1 c2 c3 c4)<|
 .c (.w fun a=> .w fun b=> .z fun⟨c0,c1,c2,c3,_⟩=>add_fn J a b c0 c1 c2 c3)<|
 .c (.w fun a=> .w fun b=> .z fun⟨c0,c1,c2,c3,_⟩=>sub_fn J a b c0 c1 c2 c3)<|
 .c (.w fun a=> .w fun b=> .z fun⟨c0,c1,c2,c3,_⟩=>mul_fn J a b c0 c1 c2 c3)<|
 .c (.w fun a=> .w fun b=> .z fun⟨c0,c1,c2,c3,_⟩=>cmp_fn J a b c0 c1 c2 c3)<|
 .c (.w fun a=> .i fun i=> .z fun⟨c0,c1,_⟩=>bit_fn J a i c0 c1)<|
 .c (.w fun a=> .i fun k=> .z fun⟨c0,_,c2,c3,_⟩=>(by have h:=shr_fn J a k.toNat (by omega) c2 c3;rwa [Int.toNat_of_nonneg c0] at h))<| .n) (SGm1_ok J).1)
theorem rest_fn (J:Inv) (a m:List Nat) (ha:a.length≤33554432) (hm:m.length≤33554432) (wa:W32 a) (wm:W32 m) (h0:vl m≠0):Fn Tryz.prog J 238 false [wV a,wV m] (wV (dg (vl a%vl m))):=by
 refine fnI Tryz.func238 rfl (by kernel_rfl) (wV_cl _) (SGm2_ok J) ?_
 unfold Tryz.f238
 simp only[↓bE,bR,reduceEqDiff,reduceLT,reduceAdd,↓reduceIte,reduceCtorEq,SGm2,SGm2f,wV,unW_wds]
 exact⟨ha,hm,wa,wm,h0⟩
def subM (x y m:Nat):Nat:=(x+m-y)%m
theorem minus_fn (J:Inv) (a b m:List Nat) (ha:a.length≤33554432) (hb:b.length≤33554432) (hm:m.length≤33554432) (wa:W32 a) (wb:W32 b) (wm:W32 m) (h1:vl a<vl m) (h2:vl b<vl m):Fn Tryz.prog J 240 false [wV a,wV b,wV m] (wV (dg (subM (vl a) (vl b) (vl m)))):=by
 refine fnI Tryz.func240 rfl (by kernel_rfl) (wV_cl _) (SGm2_ok J) ?_
 unfold Tryz.f240
 simp only[↓bE,bR,reduceEqDiff,reduceLT,reduceAdd,↓reduceIte,reduceCtorEq,SGm2,SGm2f,wV,unW_wds]
 have hl:=dg_len (Nat.lt_of_lt_of_le (show vl a+vl m<2*4294967296^m.length by have:=vl_lt wm;omega) (Nat.le_trans (Nat.mul_le_mul_right _ (show 2≤4294967296^1 by omega)) (Nat.le_of_eq (by rw[←Nat.pow_add]))))
 refine⟨by omega,by omega,wa,wb,fun h=>⟨by omega,by omega,wa,wm,by omega,by omega,W32_dg _,wb,?_⟩,fun h=> ?_⟩
 ·have h3:vl a<vl b:=by simpa using h
  unfold subM
  rw[vl_dg,Nat.mod_eq_of_lt (by omega)]
 ·have h3:vl b≤vl a:=by simpa using h
  unfold subM
  rw[show vl a+vl m-vl b=vl a-vl b+vl m by omega,Nat.add_mod_right,Nat.mod_eq_of_lt (by omega)]
def SGwf:FuncId→List V→Option (List Prop×Bool×V):=fun f args=>
 if f=237 then match args with
  |[.sq 1 d L]=>some ([d= .sq 1 (.val (.int .u32 0)) [],L=(unL L).map wV,Mods (unL L),(unL L).length≤1000],false, .i 0)
  |_=>none
 else SGm2f f args
def SGw (J:Inv):Sig:=⟨J,sdf,SGwf,noH,0⟩
theorem SGw_ok (J:Inv):SigOk Tryz.prog (SGw J):=by
 refine .plain fun f args l fr r h hl=> ?_
 change SGwf f args=some (l,fr,r) at h
 unfold SGwf at h
 split at h
 ·rename_i hf;subst hf
  split at h
  ·obtain⟨rfl,rfl,rfl⟩:=jsome_tri h
   rename_i d L
   have q1:d= .sq 1 (.val (.int .u32 0)) []:=hl _ (by simp)
   have q2:L=(unL L).map wV:=hl _ (by simp)
   have hp:=wrong_fn J (unL L) (hl _ (by simp)) (hl _ (by simp))
   rw[←q2] at hp
   subst q1
   exact hp
  ·exact absurd h (by simp)
 ·exact(SGm2_ok J).1 f args l fr r h hl
theorem Mods.get {l:List (List Nat)} (h:Mods l) {a:List Nat} (ha:a∈l):a.length≤33554432∧W32 a∧(dg (vl a)).length≤128:=h.ok a ha
def SGm3f:FuncId→List V→CR:=fun f args=>tab [(238,cW fun a=>cW fun m=>cF [a.length≤33554432,m.length≤33554432,W32 a,W32 m,vl m≠0] false (wV (dg (vl a%vl m)))),
 (240,cW fun a=>cW fun b=>cW fun m=>cF [a.length≤33554432,b.length≤33554432,m.length≤33554432,W32 a,W32 b,W32 m,vl a<vl m,vl b<vl m] false (wV (dg (subM (vl a) (vl b) (vl m)))))] SGwf f args
def SGm3 (J:Inv):Sig:=⟨J,sdf,SGm3f,noH,0⟩
theorem SGm3_ok (J:Inv):SigOk Tryz.prog (SGm3 J):= .plain (tab_ok (.c (.w fun a=> .w fun m=> .z fun⟨c0,c1,c2,c3,c4,_⟩=>rest_fn J a m c0 c1 c2 c3 c4)<|
 .c (.w fun a=> .w fun b=> .w fun m=> .z fun⟨c0,c1,c2,c3,c4,c5,c6,c7,_⟩=>minus_fn J a b m c0 c1 c2 c3 c4 c5 c6 c7)<| .n) (SGw_ok J).1)
theorem unW_lit:unW [V.val (.int .u32 1)]=[1]:=rfl
theorem dg_sum_len {x y k:Nat} (hx:(dg x).length≤k) (hy:(dg y).length≤k):(dg (x+y)).length≤k+1:=by
 have h1:=dg_hi x
 have h2:=dg_hi y
 have h3:4294967296^(dg x).length≤4294967296^k:=Nat.pow_le_pow_right (by omega) hx
 have h4:4294967296^(dg y).length≤4294967296^k:=Nat.pow_le_pow_right (by omega) hy
 refine dg_len ?_
 rw[Nat.pow_succ]
 omega
theorem dg_prod_len {x y k j:Nat} (hx:(dg x).length≤k) (hy:(dg y).length≤j):(dg (x*y)).length≤k+j:=by
 have h1:=dg_hi x
 have h2:=dg_hi y
 have h3:4294967296^(dg x).length≤4294967296^k:=Nat.pow_le_pow_right (by omega) hx
 have h4:4294967296^(dg y).length≤4294967296^j:=Nat.pow_le_pow_right (by omega) hy
 refine dg_len ?_
 rw[Nat.pow_add]
 exact Nat.mul_lt_mul'' (by omega) (by omega)
theorem Mods.three {a b m:List Nat} (h:Mods [a,b,m]):(a.length≤33554432∧W32 a∧(dg (vl a)).length≤128)∧(b.length≤33554432∧W32 b∧(dg (vl b)).length≤128)∧(m.length≤33554432∧W32 m∧(dg (vl m)).length≤128)∧2≤vl m:=
 ⟨h.ok a (by simp),h.ok b (by simp),h.ok m (by simp),h.top⟩
theorem Mods.two {a m:List Nat} (h:Mods [a,m]):(a.length≤33554432∧W32 a∧(dg (vl a)).length≤128)∧(m.length≤33554432∧W32 m∧(dg (vl m)).length≤128)∧2≤vl m:=
 ⟨h.ok a (by simp),h.ok m (by simp),h.top⟩
theorem half_pow (b j:Nat):b/2^j=2*(b/2^(j+1))+(if tb b j then 1 else 0):=by
 rw[Nat.pow_succ,←Nat.div_div_eq_div_mul]
 unfold tb
 generalize b/2^j=y
 by_cases h:y%2=1
 ·rw[if_pos (by rw[beq_iff_eq];exact h)];omega
 ·rw[if_neg (by rw[beq_iff_eq];exact h)];omega
theorem pow_step (a b j m:Nat):a^(b/2^j)%m=if tb b j then (a^(b/2^(j+1))%m*(a^(b/2^(j+1))%m)%m)*(a%m)%m else a^(b/2^(j+1))%m*(a^(b/2^(j+1))%m)%m:=by
 rw[half_pow]
 generalize b/2^(j+1)=y
 have e:a^(2*y)=a^y*a^y:=by rw[Nat.two_mul,Nat.pow_add]
 split
 ·rw[Nat.pow_succ,e,Nat.mul_mod,Nat.mul_mod (a^y)]
 ·rw[Nat.add_zero,e,Nat.mul_mod]
section
variable (J:Inv) (a b m:List Nat) (h:Mods [a,b,m])
include h
theorem addm_fn:Fn Tryz.prog J 208 false [wV a,wV b,wV m] (.tu [wV (dg ((vl a+vl b)%vl m)), .i 0]):=by
 refine fnI Tryz.func208 rfl (by kernel_rfl) (by simp[V.cl,clL,wV,wds_cl,V.i]) (SGm3_ok J) ?_
 unfold Tryz.f208
 simp only[↓bE,bR,reduceMul,reduceLeDiff,reduceEqDiff,reduceAdd,↓reduceIte,reduceCtorEq,SGm3,SGm3f,SGwf,SGm2f,sdf,wV,unW_wds,unL]
 obtain⟨⟨a1,a2,a3⟩,⟨b1,b2,b3⟩,⟨m1,m2,m3⟩,m4⟩:=h.three
 have hs:=dg_sum_len a3 b3
 have hb: ∀l:List Nat,l.length≤33554432→l.length≤67108864:=fun _ h=>by omega
 refine⟨h,fun h=>absurd h (by simp),fun _=>⟨hb _ a1,hb _ b1,a2,b2,by omega,m1,W32_dg _,m2,by omega,by rw[vl_dg]⟩⟩
theorem subm_fn:Fn Tryz.prog J 206 false [wV a,wV b,wV m] (.tu [wV (dg (subM (vl a%vl m) (vl b%vl m) (vl m))), .i 0]):=by
 refine fnI Tryz.func206 rfl (by kernel_rfl) (by simp[V.cl,clL,wV,wds_cl,V.i]) (SGm3_ok J) ?_
 unfold Tryz.f206
 simp only[↓bE,bR,reduceMul,reduceLeDiff,reduceEqDiff,reduceAdd,↓reduceIte,reduceCtorEq,SGm3,SGm3f,SGwf,sdf,wV,unW_wds,unL]
 obtain⟨⟨a1,a2,a3⟩,⟨b1,b2,b3⟩,⟨m1,m2,m3⟩,m4⟩:=h.three
 have e1: ∀x,x%vl m<vl m:=fun x=>Nat.mod_lt _ (by omega)
 have e2: ∀x,(dg (x%vl m)).length≤33554432:=fun x=>by have:=dg_mono (Nat.le_of_lt (e1 x));omega
 refine⟨h,fun h=>absurd h (by simp),fun _=>⟨a1,m1,a2,m2,by omega,b1,m1,b2,m2,by omega,e2 _,e2 _,m1,W32_dg _,W32_dg _,m2,by rw[vl_dg];exact e1 _,by rw[vl_dg];exact e1 _,by rw[vl_dg,vl_dg]⟩⟩
theorem mulm_fn:Fn Tryz.prog J 205 false [wV a,wV b,wV m] (.tu [wV (dg ((vl a*vl b)%vl m)), .i 0]):=by
 refine fnI Tryz.func205 rfl (by kernel_rfl) (by simp[V.cl,clL,wV,wds_cl,V.i]) (SGm3_ok J) ?_
 unfold Tryz.f205
 simp only[↓bE,bR,reduceMul,reduceLeDiff,reduceEqDiff,reduceAdd,↓reduceIte,reduceCtorEq,SGm3,SGm3f,SGwf,SGm2f,sdf,wV,unW_wds,unL]
 obtain⟨⟨a1,a2,a3⟩,⟨b1,b2,b3⟩,⟨m1,m2,m3⟩,m4⟩:=h.three
 have hs:=dg_prod_len a3 b3
 have hb: ∀l:List Nat,l.length≤33554432→l.length≤67108864:=fun _ h=>by omega
 refine⟨h,fun h=>absurd h (by simp),fun _=>⟨hb _ a1,hb _ b1,a2,b2,by omega,m1,W32_dg _,m2,by omega,by rw[vl_dg]⟩⟩
theorem expm_fn:Fn Tryz.prog J 209 false [wV a,wV b,wV m] (.tu [wV (dg (vl a^vl b%vl m)), .i 0]):=by
 refine fnI Tryz.func209 rfl (by kernel_rfl) (by simp[V.cl,clL,wV,wds_cl,V.i]) (SGm3_ok J) ?_
 unfold Tryz.f209
 simp only[↓bE,bR,reduceMul,reduceLeDiff,reduceEqDiff,reduceAdd,↓reduceIte,reduceCtorEq,SGm3,SGm3f,SGwf,SGm2f,SGm1f,sdf,wV,unW_wds,unL,unW_lit]
 obtain⟨⟨a1,a2,a3⟩,⟨b1,b2,b3⟩,⟨m1,m2,m3⟩,m4⟩:=h.three
 have hb: ∀l:List Nat,l.length≤33554432→l.length≤67108864:=fun _ h=>by omega
 have e1: ∀x,x%vl m<vl m:=fun x=>Nat.mod_lt _ (by omega)
 have e2: ∀x,(dg (x%vl m)).length≤128:=fun x=>by have:=dg_mono (Nat.le_of_lt (e1 x));omega
 have e3:bl (vl b)≤32*128:=by have:=bl_words (vl b);omega
 have m0:vl m≠0:=by omega
 refine⟨h,fun h=>absurd h (by simp),fun _=>⟨a1,m1,a2,m2,m0,rfl,m1,W32.one (by omega),m2,m0,hb _ b1,b2,by constructor<;>omega,?_⟩⟩
 refine LoopC.intro (α:=Nat) (fun k=>k≤bl (vl b)) (fun k=>⟨[(0,wV (dg (vl a%vl m))),(1,wV b),(2,wV m),(9,wV (dg (vl a^(vl b/2^k)%vl m))),(10, .i ((k:Int)-1))],[],2⟩) (fun k=>k) (bl (vl b)) (Nat.le_refl _) ?_ ?_
 ·simp only[bR,reduceLeDiff,reduceEqDiff,↓reduceIte,reduceCtorEq,wV]
  rw[Nat.div_eq_of_lt (bl_lt _),Nat.pow_zero,vl_one]
 ·intro k hk
  simp only[↓bE,bQ,reduceLeDiff,reduceEqDiff,reduceAdd,↓reduceIte,reduceCtorEq,SGm3f,SGwf,SGm2f]
  refine⟨fun hb0=> ?_,fun hb0=> ?_⟩
  ·have hk1:1≤k:=by simp at hb0;omega
   obtain⟨j,rfl⟩: ∃j,k=j+1:=⟨k-1,by omega⟩
   have hst:=pow_step (vl a) (vl b) j (vl m)
   rw[show(((j+1:Nat):Int)-1).toNat=j by omega]
   have f1:=e2 (vl a^(vl b/2^(j+1)))
   have f2:=dg_prod_len f1 f1
   have f3:=e2 (vl a^(vl b/2^(j+1))%vl m*(vl a^(vl b/2^(j+1))%vl m))
   have f4:=e2 (vl a)
   have f5:=dg_prod_len f3 f4
   generalize vl a^(vl b/2^(j+1))%vl m=X at *
   refine⟨by omega,by omega,by omega,m1,m2,m0,by constructor<;>omega,b2,fun ht=>⟨by omega,by omega,by omega,m1,m2,m0,by constructor<;>omega,Again.intro j (by omega) (by show j<j+1;omega) ?_⟩,fun ht=>⟨by constructor<;>omega,Again.intro j (by omega) (by show j<j+1;omega) ?_⟩⟩
   ·simp only[bQ,reduceLeDiff,reduceEqDiff,↓reduceIte,reduceCtorEq]
    have ht:tb (vl b) j=true:=by simpa using (Bool.and_eq_true_iff.1 ht).2
    rw[hst,if_pos ht]
    first|omega|exact⟨rfl,by omega⟩
   ·simp only[bQ,reduceLeDiff,reduceEqDiff,↓reduceIte,reduceCtorEq]
    have ht:tb (vl b) j=false:=by
     rw[Bool.and_eq_false_iff] at ht
     rcases ht with ht|ht
     ·simp at ht<;>omega
     ·exact ht
    rw[hst,if_neg (by rw[ht];simp)]
    first|omega|exact⟨rfl,by omega⟩
  ·obtain rfl:k=0:=by simp at hb0;omega
   rw[Nat.pow_zero,Nat.div_one]
end
def halfM (x m:Nat):Nat:=if x%2=1 then (x+m)/2 else x/2
theorem tb_zero (n:Nat):tb n 0=(n%2==1):=by unfold tb;rw[Nat.pow_zero,Nat.div_one]
theorem half_fn (J:Inv) (x m:List Nat) (hx:x.length≤33554432) (hm:m.length≤33554432) (wx:W32 x) (wm:W32 m):Fn Tryz.prog J 262 false [wV x,wV m] (wV (dg (halfM (vl x) (vl m)))):=by
 refine fnI Tryz.func262 rfl (by kernel_rfl) (wV_cl _) (SGm3_ok J) ?_
 unfold Tryz.f262
 simp only[↓bE,bQ,reduceEqDiff,reduceAdd,↓reduceIte,reduceCtorEq,reduceToNat,SGm3,SGm3f,SGwf,SGm2f]
 have lx:=trim_len x
 have lm:=trim_len m
 rw[trim_dg wx] at lx
 rw[trim_dg wm] at lm
 have hs:=dg_sum_len (Nat.le_trans lx hx) (Nat.le_trans lm hm)
 unfold halfM
 rw[tb_zero]
 refine⟨by constructor<;>omega,wx,fun h=>⟨by omega,by omega,wx,wm,by omega,by omega,by omega,?_⟩,fun h=>⟨by omega,by omega,by omega,wx,?_⟩⟩
 ·have h1:vl x%2=1:=by simpa using h
  rw[if_pos h1]
 ·have h1: ¬vl x%2=1:=by simpa using h
  rw[if_neg h1]
theorem cancel2 {m x y:Nat} (hm:m%2=1) (h:2*x%m=2*y%m):x%m=y%m:=by
 have e: ∀z,((m+1)/2*(2*z))%m=z%m:=fun z=>by
  rw[←Nat.mul_assoc,show(m+1)/2*2=m+1 by omega,Nat.add_mul,Nat.one_mul,Nat.mul_add_mod]
 rw[←e x,←e y,Nat.mul_mod,h,←Nat.mul_mod]
theorem cancel_add {m x y c d:Nat} (h:(x+c)%m=(y+d)%m) (hc:c%m=d%m):x%m=y%m:=by
 have h2:(y+d)%m=(y+c)%m:=by rw[Nat.add_mod,←hc,←Nat.add_mod]
 rw[h2] at h
 have h3:((x:Int)+c)%m=((y:Int)+c)%m:=by exact_mod_cast h
 have h4:=Int.emod_add_cancel_right (i:=(c:Int)) (m:=(x:Int)) (k:=(y:Int)) (n:=(m:Int))
 exact_mod_cast h4.1 h3
theorem halfM_lt {x m:Nat} (hm:m%2=1) (hx:x<m):halfM x m<m:=by unfold halfM;split<;>omega
theorem halfM_mod {x m a u:Nat} (hm:m%2=1) (h:x*a%m=u%m) (hu:u%2=0):halfM x m*a%m=u/2%m:=by
 refine cancel2 hm ?_
 rw[show 2*(u/2)=u by omega,←h,←Nat.mul_assoc]
 unfold halfM
 split
 ·rw[show 2*((x+m)/2)=x+m by omega,Nat.add_mul,Nat.add_mul_mod_self_left]
 ·rw[show 2*(x/2)=x by omega]
theorem subM_lt {x y m:Nat} (hm:0<m):subM x y m<m:=Nat.mod_lt _ hm
theorem subM_mod {p q a m u v:Nat} (hq:q<m) (h1:p*a%m=u%m) (h2:q*a%m=v%m) (huv:v≤u):subM p q m*a%m=(u-v)%m:=by
 refine cancel_add (c:=q*a) (d:=v) ?_ h2
 unfold subM
 rw[Nat.add_mod,Nat.mod_mul_mod,←Nat.add_mod,←Nat.add_mul,show p+m-q+q=p+m by omega,Nat.add_mul,Nat.add_mul_mod_self_left,h1,show u-v+v=u by omega]
structure EuI (a m u v p q:Nat):Prop where
 v0:0<v
 um:u≤m
 vm:v≤m
 pm:p<m
 qm:q<m
 hp:p*a%m=u%m
 hq:q*a%m=v%m
 g: ∀d,d ∣u→d ∣v→d=1
theorem EuI.hu {a m u v p q:Nat} (hm:m%2=1) (h:EuI a m u v p q) (hu:u%2=0):EuI a m (u/2) v (halfM p m) q:=
 ⟨h.v0,by have:=h.um;omega,h.vm,halfM_lt hm h.pm,h.qm,halfM_mod hm h.hp hu,h.hq,fun d h1 h2=>h.g d (Nat.dvd_trans h1 ⟨2,by omega⟩) h2⟩
theorem EuI.hv {a m u v p q:Nat} (hm:m%2=1) (h:EuI a m u v p q) (hv:v%2=0):EuI a m u (v/2) p (halfM q m):=
 ⟨by have:=h.v0;omega,h.um,by have:=h.vm;omega,h.pm,halfM_lt hm h.qm,h.hp,halfM_mod hm h.hq hv,fun d h1 h2=>h.g d h1 (Nat.dvd_trans h2 ⟨2,by omega⟩)⟩
theorem EuI.su {a m u v p q:Nat} (h:EuI a m u v p q) (hu:v≤u):EuI a m (u-v) v (subM p q m) q:=
 ⟨h.v0,by have:=h.um;omega,h.vm,subM_lt (by have:=h.pm;omega),h.qm,subM_mod h.qm h.hp h.hq hu,h.hq,fun d h1 h2=>h.g d (by have:=Nat.dvd_add h1 h2;rwa [Nat.sub_add_cancel hu] at this) h2⟩
theorem EuI.sv {a m u v p q:Nat} (h:EuI a m u v p q) (hu:u<v):EuI a m u (v-u) p (subM q p m):=
 ⟨by omega,h.um,by have:=h.vm;omega,h.pm,subM_lt (by have:=h.pm;omega),h.hp,subM_mod h.pm h.hq h.hp (Nat.le_of_lt hu),fun d h1 h2=>h.g d h1 (by have:=Nat.dvd_add h2 h1;rwa [Nat.sub_add_cancel (Nat.le_of_lt hu)] at this)⟩
theorem inv_one {a m x y:Nat} (hx:x<m) (hy:y<m) (h1:x*a%m=1%m) (h2:y*a%m=1%m):x=y:=by
 have e:x*(y*a)%m=y*(x*a)%m:=by rw[Nat.mul_left_comm]
 rw[Nat.mul_mod,h2,Nat.mul_mod y,h1,←Nat.mul_mod,←Nat.mul_mod,Nat.mul_one,Nat.mul_one,Nat.mod_eq_of_lt hx,Nat.mod_eq_of_lt hy] at e
 exact e
theorem EuI.start {a m x:Nat} (hm:1<m) (ha:a<m) (hx:x*a%m=1):EuI a m a m 1 0:=
 ⟨by omega,by omega,by omega,hm,by omega,by rw[Nat.one_mul],by rw[Nat.zero_mul,Nat.mod_self,Nat.zero_mod],fun d h1 h2=>by
  have h3:d ∣x*a:=Nat.dvd_trans h1 (Nat.dvd_mul_left a x)
  have h4:=(Nat.dvd_mod_iff h2).2 h3
  rw[hx] at h4
  exact Nat.dvd_one.1 h4⟩
theorem EuI.fin {a m v p q x:Nat} (h:EuI a m 0 v p q) (hx:x<m) (hxa:x*a%m=1) (hm:1<m):v=1∧q=x:=by
 have h1:v=1:=h.g v (Nat.dvd_zero v) (Nat.dvd_refl v)
 subst h1
 exact⟨rfl,inv_one h.qm hx h.hq (by rw[hxa,Nat.mod_eq_of_lt hm])⟩
def SGm4f:FuncId→List V→CR:=fun f args=>tab [(262,cW fun x=>cW fun m=>cF [x.length≤33554432,m.length≤33554432,W32 x,W32 m] false (wV (dg (halfM (vl x) (vl m)))))] SGm3f f args
def SGm4 (J:Inv):Sig:=⟨J,sdf,SGm4f,noH,0⟩
theorem SGm4_ok (J:Inv):SigOk Tryz.prog (SGm4 J):= .plain (tab_ok (.c (.w fun x=> .w fun m=> .z fun⟨c0,c1,c2,c3,_⟩=>half_fn J x m c0 c1 c2 c3)<| .n) (SGm3_ok J).1)
theorem dg_one:dg 1=[1]:=by rw[dg,dif_neg (by omega)];rw[show 1%4294967296=1 from rfl,show 1/4294967296=0 from rfl,dg_zero]
theorem odd_fn (J:Inv) (a m x:Nat) (hm:1<m) (h2:m%2=1) (hl:(dg m).length≤1024) (ha:a<m) (hx:x<m) (hxa:x*a%m=1):Fn Tryz.prog J 241 false [wV (dg a),wV (dg m)] (.tu [wV (dg 1),wV (dg x)]):=by
 refine fnI Tryz.func241 rfl (by kernel_rfl) (by simp[V.cl,clL,wV,wds_cl]) (SGm4_ok J) ?_
 unfold Tryz.f241
 simp only[bQ,reduceMul,reduceLeDiff,reduceEqDiff,reduceAdd,↓reduceIte,reduceCtorEq,SGm4]
 have hle: ∀y,y≤m→(dg y).length≤1024:=fun y hy=>Nat.le_trans (dg_mono hy) hl
 refine LoopC.introA (α:=Nat×Nat×Nat×Nat) (fun y=>EuI a m y.1 y.2.1 y.2.2.1 y.2.2.2) (fun y=>⟨[(1,wV (dg m)),(6,wV (dg y.1)),(7,wV (dg y.2.1)),(8,wV (dg y.2.2.1)),(9,wV (dg y.2.2.2))],[],2⟩) (fun y=>y.1+y.2.1) (a,m,1,0) [.fzs 0, .fzs 1] (EuI.start hm ha hxa) ?_ ?_
 ·simp only[bQ,reduceLeDiff,reduceEqDiff,↓reduceIte,reduceCtorEq,dg_one,dg_zero]
  rfl
 ·rintro⟨u,v,p,q⟩ h0
  have h0:EuI a m u v p q:=h0
  have b1:=hle _ h0.um
  simp only[↓bE,bQ,reduceLeDiff,reduceEqDiff,reduceAdd,↓reduceIte,SGm4f,SGm3f,SGwf,SGm2f,SGm1f]
  refine⟨by omega,fun hb=> ?_,fun hb=> ?_⟩
  ·have hu0:0<u:=by
    rcases Nat.eq_zero_or_pos u with rfl|h
    ·rw[bl_zero] at hb;simp at hb
    ·exact h
   refine LoopC.intro (α:=Nat×Nat) (fun y=>EuI a m y.1 v y.2 q∧0<y.1∧y.1≤u) (fun y=>⟨[(1,wV (dg m)),(6,wV (dg y.1)),(7,wV (dg v)),(8,wV (dg y.2)),(9,wV (dg q))],[],2⟩) (fun y=>y.1) (u,p) ⟨h0,hu0,Nat.le_refl _⟩ ?_ ?_
   ·simp only[bQ,reduceLeDiff,reduceEqDiff,↓reduceIte]
   ·rintro⟨u1,p1⟩ ⟨g0,g1,g2⟩
    have g0:EuI a m u1 v p1 q:=g0
    have g1:0<u1:=g1
    have g2:u1≤u:=g2
    have b2:=hle _ g0.um
    have b3:=hle _ (Nat.le_of_lt g0.pm)
    simp only[↓bE,bQ,reduceEqDiff,↓reduceIte,reduceToNat,SGm4f,SGm3f,SGwf,SGm2f,tb_zero]
    refine⟨by constructor<;>omega,fun hb=> ?_,fun hb=> ?_⟩
    ·have he:u1%2=0:=by simp at hb;omega
     refine⟨by omega,by omega,by omega,by omega,by omega,Again.intro (u1/2,halfM p1 m) ⟨g0.hu h2 he,by show 0<u1/2;omega,by show u1/2≤u;omega⟩ (by show u1/2<u1;omega) ?_⟩
     simp only[bQ,reduceLeDiff,reduceEqDiff,↓reduceIte]
    ·refine LoopC.intro (α:=Nat×Nat) (fun y=>EuI a m u1 y.1 p1 y.2∧y.1≤v) (fun y=>⟨[(1,wV (dg m)),(6,wV (dg u1)),(7,wV (dg y.1)),(8,wV (dg p1)),(9,wV (dg y.2))],[],2⟩) (fun y=>y.1) (v,q) ⟨g0,Nat.le_refl _⟩ ?_ ?_
     ·simp only[bQ,reduceLeDiff,reduceEqDiff,↓reduceIte]
     ·rintro⟨v1,q1⟩ ⟨k0,k2⟩
      have k0:EuI a m u1 v1 p1 q1:=k0
      have k1:=k0.v0
      have k2:v1≤v:=k2
      have b4:=hle _ k0.vm
      have b5:=hle _ (Nat.le_of_lt k0.qm)
      simp only[↓bE,bQ,reduceEqDiff,reduceLT,reduceAdd,↓reduceIte,reduceToNat,SGm4f,SGm3f,SGwf,SGm2f,tb_zero]
      refine⟨by constructor<;>omega,fun hb=> ?_,fun hb=>⟨by omega,by omega,fun hc=> ?_,fun hc=> ?_⟩⟩
      ·have he:v1%2=0:=by simp at hb;omega
       refine⟨by omega,by omega,by omega,by omega,by omega,Again.intro (v1/2,halfM q1 m) ⟨k0.hv h2 he,by show v1/2≤v;omega⟩ (by show v1/2<v1;omega) ?_⟩
       simp only[bQ,reduceLeDiff,reduceEqDiff,↓reduceIte]
      ·have hc:v1≤u1:=by
        rcases Nat.lt_or_ge u1 v1 with h|h
        ·rw[cmp3_lt h] at hc;simp at hc
        ·exact h
       refine⟨by omega,by omega,by omega,by omega,by omega,k0.pm,k0.qm,Again.intro (u1-v1,v1,subM p1 q1 m,q1) (k0.su hc) (by show u1-v1+v1<u+v;omega) ?_⟩
       simp only[bQ,reduceLeDiff,reduceEqDiff,↓reduceIte]
      ·have hc:u1<v1:=by
        rcases Nat.lt_or_ge u1 v1 with h|h
        ·exact h
        ·rcases Nat.eq_or_lt_of_le h with h|h
         ·rw[h,cmp3_eq] at hc;simp at hc
         ·rw[cmp3_gt h] at hc;simp at hc
       refine⟨by omega,by omega,by omega,by omega,by omega,k0.qm,k0.pm,Again.intro (u1,v1-u1,p1,subM q1 p1 m) (k0.sv hc) (by show u1+(v1-u1)<u+v;omega) ?_⟩
       simp only[bQ,reduceLeDiff,reduceEqDiff,↓reduceIte]
  ·have hu0:u=0:=by
    rcases Nat.eq_zero_or_pos u with h|h
    ·exact h
    ·have:=bl_pos (show u≠0 by omega)
     simp at hb;omega
   subst hu0
   obtain⟨rfl,rfl⟩:=h0.fin hx hxa hm
   exact⟨rfl,rfl⟩
section
variable {P:Program} {x x0 x1:Fx} {F:Cx} {w w':World} {a:Act} {s:S}
structure Root (x x':Fx):Prop where
 j:x'.J=x.J
 n:x'.n=x.n
 ev:Ev x.X x.w x'.w
 X: ∀b,x'.X b→x.w.heap.size≤b∨x.X b
 F: ∀b,x.F b→x'.F b
 le:Cx.Le x.w x.C x'.C
theorem Root.refl (x:Fx):Root x x:=⟨rfl,rfl,Ev.refl _ _,fun _ h=> .inr h,fun _ h=>h,Cx.Le.refl _ _⟩
theorem Root.evs {X:Nat→Prop} {w2:World} (r:Root x x1) (hX: ∀b,X b→x1.w.heap.size≤b∨x1.X b) (h:Ev X x1.w w2):Ev x.X x.w w2:=
 ⟨h.os.trans r.ev.os,h.tape.trans r.ev.tape,h.output.trans r.ev.output,Nat.le_trans r.ev.size h.size,fun b hb hx=>(h.block b (Nat.lt_of_lt_of_le hb r.ev.size) fun hx'=>by
  rcases hX b hx' with h|h
  ·have:=r.ev.size;omega
  ·rcases r.X b h with h|h
   ·omega
   ·exact hx h).trans (r.ev.block b hb hx)⟩
theorem Root.sat (r:Root x x1) (h:Sat x1 s F a w):Sat x s F a w where
 ev:=r.evs (fun _ h=> .inr h) h.ev
 env:=h.env
 df:=h.df
 sz:=h.sz.trans r.n
 fold:=fun b hb=>h.fold b (r.F b hb)
 flt:=h.flt
 nx:=h.nx
 own:=h.own
 own2:=fun k ob g hk hg=>by
  rcases h.own2 k ob g hk hg with h|h
  ·exact .inl (Nat.le_trans r.ev.size h)
  ·exact r.X g h
 own3:=fun k ob g hk hg hx=>h.own3 k ob g hk hg (r.F g hx)
 sep:=h.sep
 wsl:=h.wsl
 le:=r.le.trans h.le r.ev.size
 inv:=r.j▸h.inv
def Fx.at (x:Fx) (h:List (Nat×Ob)) (F:Cx) (w:World):Fx:=⟨x.J,w,fun b=>F.F b∧ ¬Blk F h b,x.n,Blk F h,F⟩
theorem Sat.root (r:Root x0 x) (hs:Sat x s F a w):Root x0 (x.at s.h F w)∧Sat (x.at s.h F w) s F a w:=by
 have h0:=r.sat hs
 refine⟨⟨r.j,r.n,h0.ev,fun b ⟨k,ob,hk,hb⟩=>h0.own2 k ob b hk hb,fun b hb=>⟨h0.fold b hb,fun⟨k,ob,hk,hg⟩=>h0.own3 k ob b hk hg hb⟩,h0.le⟩,?_⟩
 exact⟨Ev.refl _ _,hs.env,hs.df,hs.sz,fun b hb=>hb.1,hs.flt,hs.nx,hs.own,fun k ob g hk hg=> .inr ⟨k,ob,hk,hg⟩,fun k ob g hk hg hF=>hF.2 ⟨k,ob,hk,hg⟩,hs.sep,hs.wsl,Cx.Le.refl _ _,hs.inv⟩
theorem piece {G:Sig} {c:Code} {K:Ko} {Q:Exit→Act→World→Prop} (r:Root x0 x) (hs:Sat x s F a w) (hG:SigOk P G) (hJ:x.J=G.J) (hb:G.b=s.nx) (hm:P.follows .mixedOrders=true) (ho:okC x.n c=true) (hv:vg P G c s K)
  (hK: ∀x1,Root x0 x1→x1.J=x.J→x1.n=x.n→x1.w=w→x1.X=Blk F s.h→x1.C=F→(∀b,F.F b→ ¬Blk F s.h b→x1.F b)→KOk x1 K Q):c.wp P Q a w:=by
 obtain⟨r1,h1⟩:=hs.root r
 exact vg_ok (x:=x.at s.h F w) hG hJ (fun m hm'=>hs.nx m (by omega)) hm c s K Q F a w ho hv (hK _ r1 rfl rfl rfl rfl rfl fun b h2 h3=>⟨h2,h3⟩) h1
abbrev fx0 (J:Inv) (w:World) (F:Cx) (pre:List (Nat×Ob)) (n:Nat):Fx:=⟨J,w,fun b=>F.F b∧ ¬Blk F pre b,n,Blk F pre,F⟩
theorem fnH_wp {J:Inv} {f:FuncId} {fn:Func} {c:Code} {args:List V} {pre post:List (Nat×Ob)} {nx nx':Nat} {res:V} (hf:P.funcs[f]?=some fn) (hb:fn.body=some c) (hname:(fn.name== "runtime.NumGoroutine")=false) (hn:args.length≤fn.ntmps)
  (h: ∀(w:World) (F:Cx) (a:Act) (Q:Exit→Act→World→Prop),Mem J pre nx F w→Sat (fx0 J w F pre fn.ntmps) ⟨enOf 0 args,pre,nx⟩ F a w→KOk (fx0 J w F pre fn.ntmps) ⟨RetH fn.results.toList res post nx',RetH fn.results.toList res post nx',[]⟩ Q→c.wp P Q a w):FnH P J f args pre nx res post nx':=by
 refine⟨⟨fn,hf,by simp[hb],hname⟩,fun w F vs hM hlen hvs=> ?_⟩
 refine calls_of_wp hf hb ?_
 have fin: ∀(s:S) (F':Cx) (a:Act) (w':World),RetH fn.results.toList res post nx' s→Sat (fx0 J w F pre fn.ntmps) s F' a w'→
   a.defers=[]∧ ∃v,(results fn a.tmps).run P w'= .ok v w'∧ ∃v' G1,Ending.returned v= .returned v'∧Ev (Blk F pre) w w'∧Cx.Le w F G1∧(∀b,F.F b→ ¬Blk F pre b→G1.F b)∧Mem J post nx' G1 w'∧(∀k ob g,Hget post k=some ob→G1.blk k ob=some g→Blk F pre g∨w.heap.size≤g)∧Rep w' G1 res v':=fun s F' a w' h hs=>by
  obtain⟨s',G',v,hs',hB,hrun,hv⟩:=RetK_ok (P:=P) h hs
  refine⟨hs.df,v,hrun,v,G',rfl,hs'.ev,hs'.le,fun b h1 h2=>hs'.fold b ⟨h1,h2⟩,⟨hs'.flt,fun k hk=>hs'.nx k (Nat.le_trans hB.2 hk),fun m o ho=>hs'.own m o (subH_get hB.1 m o ho),fun m m' o o' g ho ho'=>hs'.sep m m' o o' g (subH_get hB.1 m o ho) (subH_get hB.1 m' o' ho'),hs'.wsl,hs'.inv⟩,fun k ob g hk hg=>(hs'.own2 k ob g (subH_get hB.1 k ob hk) hg).symm,hv⟩
 refine h w F _ _ hM ?_ ⟨fun s F' a w' h hs=>fin s F' a w' h hs,fun s F' a w' h hs=>fin s F' a w' h hs,fun id k hk=>by simp[exGet] at hk⟩
 refine⟨Ev.refl _ w,fun t v ht=> ?_,rfl,by simp;omega,fun b hb=>hb.1,hM.flt,hM.nx,hM.own,fun k ob g hk hg=> .inr ⟨k,ob,hk,hg⟩,fun k ob g hk hg hF=>hF.2 ⟨k,ob,hk,hg⟩,hM.sep,hM.wsl,Cx.Le.refl w _,hM.inv⟩
 obtain⟨_,h1⟩:=enOf_get args 0 t v ht
 simp only[Nat.sub_zero] at h1
 have hlt:t<args.length:=(List.getElem?_eq_some_iff.1 h1).1
 have hlt':t<vs.length:=by omega
 refine⟨by simp;omega,?_⟩
 have hg:vs[t]?=some vs[t]:=List.getElem?_eq_getElem hlt'
 have:=hvs t v _ h1 hg
 simpa [Array.getD_eq_getD_getElem?,Array.getElem?_append,hlt'] using this
theorem dsts_of {n:Nat} {l:List Oper} (h:(l.all fun o=>match o.dst with|some d=>decide (d<n)|none=>true)=true):dstsOk n l:=by
 intro o hoo d hd
 have:=List.all_eq_true.1 h o hoo
 rw[hd] at this
 simpa using this
theorem Sat.slot (hs:Sat x s F a w) {t:Nat} {v v':V} (ht:s.e.get t=some v) (hr: ∀y,Rep w F v y→Rep w F v' y):Sat x ⟨(t,v')::s.e,s.h,s.nx⟩ F a w:=by
 refine⟨hs.ev,fun t' u hu=> ?_,hs.df,hs.sz,hs.fold,hs.flt,hs.nx,hs.own,hs.own2,hs.own3,hs.sep,hs.wsl,hs.le,hs.inv⟩
 simp only[En.get] at hu
 split at hu
 ·rename_i e;subst e
  obtain rfl:=Option.some.inj hu
  obtain⟨h1,h2⟩:=hs.env _ _ ht
  exact⟨h1,hr _ h2⟩
 ·exact hs.env _ _ hu
theorem wp_pc {G:Sig} {c d:Code} {R Kr:S→Prop} {ex:List (Nat×(S→Prop))} {Q:Exit→Act→World→Prop} (hG:SigOk P G) (hJ:x.J=G.J) (hb: ∀m:Nm,G.b≤m.root→x.C.O m=none∧x.C.W m=none) (hm:P.follows .mixedOrders=true) (ho:okC x.n c=true)
  (hv:vg P G c s ⟨R,Kr,ex⟩) (hs:Sat x s F a w) (hR: ∀s F a w,R s→Sat x s F a w→d.wp P Q a w) (hKr: ∀s F a w,Kr s→Sat x s F a w→Q .ret a w) (hex: ∀id k,exGet ex id=some k→ ∀s F a w,k s→Sat x s F a w→Q (.exit id) a w):(Code.seq c d).wp P Q a w:=
 wp_seq (vg_ok hG hJ hb hm c s _ _ F a w ho hv ⟨hR,hKr,hex⟩ hs)
end
end Go.Proofs.YtfengpdaocgcnaaGreatDoor
