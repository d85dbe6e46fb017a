/- Long division. Quotient and rest. -/
import Derived.Test.YtfengpdaocgcnaaGreatDoorT21
namespace Go.Proofs.YtfengpdaocgcnaaGreatDoor
open Nat (reduceMul reduceLeDiff reduceEqDiff reduceLT reduceAdd reduceSub reduceDiv)
open Int (reduceToNat reducePow)
open Go.RowKit
set_option linter.unusedSimpArgs false
set_option maxRecDepth 100000
def SGlh:FuncId→List V→List (Nat×Ob)→Nat→Option CallH:=fun f args h nx=>
 if f=210 then SGdh f args h nx
 else if f=282 then match args with
  |[.ro (.r k), .sq 1 dx Lx, .val (.int .i64 s)]=>match Hroot h k with
   |some (.row ty (.sq 1 d L))=>some ⟨[ty=156,d= .val (.int .u32 0),L=wds (unW L),dx= .val (.int .u32 0),Lx=wds (unW Lx),0≤s,s<32,(unW L).length≤1073741824,(unW Lx).length≤(unW L).length,W32 (unW Lx)],[false,true,true],[(k, .row 156 (wV (unW L)))], .tu [],[(k, .row 156 (wV (fw (unW L).length (vl (unW Lx)*2^s.toNat))))],nx⟩
   |_=>none
  |_=>none
 else if f=274 then match args with
  |[.vw (.r k) 1 a n,y]=>match Hroot h k with
   |some (.row ty (.sq 1 d L))=>match (fz h y).1 with
    | .sq 1 dy Ly=>some ⟨[ty=156,d= .val (.int .u32 0),L=wds (unW L),dy= .val (.int .u32 0),Ly=wds (unW Ly),(unW L).length≤1073741824,a+n≤(unW L).length,(unW Ly).length≤n,W32 (unW L),W32 (unW Ly)],[false,true],[(k, .row 156 (wV (unW L)))], .val (.int .u32 (brw (vl (seg (unW L) a n)) (vl (unW Ly)):Nat)),[(k, .row 156 (wV (taken (unW L) a n (unW Ly))))],nx⟩
    |_=>none
   |_=>none
  |_=>none
 else none
def SGlf:FuncId→List V→Option (List Prop×Bool×V):=fun f args=>
 if f=283 then match args with
  |[.sq 1 du Lu, .sq 1 dv Lv]=>some ([du= .val (.int .u32 0),Lu=wds (unW Lu),dv= .val (.int .u32 0),Lv=wds (unW Lv),2≤(unW Lv).length,(unW Lv).length≤67108864,(unW Lu).length=(unW Lv).length+1,W32 (unW Lu),W32 (unW Lv),vl (unW Lu)<4294967296*vl (unW Lv),2147483648≤(unW Lv).getD ((unW Lv).length-1) 0],false, .val (.int .u64 (est (unW Lu) (unW Lv):Nat)))
  |_=>none
 else if f=284 then match args with
  |[.sq 1 du Lu, .sq 1 dv Lv]=>some ([du= .val (.int .u32 0),Lu=wds (unW Lu),dv= .val (.int .u32 0),Lv=wds (unW Lv),(unW Lu).length≤1073741824,(unW Lu).length=(unW Lv).length,W32 (unW Lu),W32 (unW Lv)],false, .bb (decide (vl (unW Lu)<vl (unW Lv))))
  |_=>none
 else SGaf f args
def SGl (J:Inv):Sig:=⟨J,sdf,SGlf,SGlh,0⟩
theorem SGl_ok (J:Inv):SigOk Tryz.prog (SGl J):=by
 refine⟨fun f args l fr r h hl=> ?_,fun f args h nx c hc hl=> ?_⟩
 ·change SGlf f args=some (l,fr,r) at h
  unfold SGlf at h
  split at h
  ·rename_i hf;subst hf
   split at h
   ·obtain⟨rfl,rfl,rfl⟩:=jsome_tri h
    rename_i du Lu dv Lv
    have q1:du= .val (.int .u32 0):=hl _ (by simp)
    have q2:Lu=wds (unW Lu):=hl _ (by simp)
    have q3:dv= .val (.int .u32 0):=hl _ (by simp)
    have q4:Lv=wds (unW Lv):=hl _ (by simp)
    have q5:2≤(unW Lv).length:=hl _ (by simp)
    have q6:(unW Lv).length≤67108864:=hl _ (by simp)
    have q7:(unW Lu).length=(unW Lv).length+1:=hl _ (by simp)
    have q8:2147483648≤(unW Lv).getD ((unW Lv).length-1) 0:=hl _ (by simp)
    subst q1 q3
    have hp:=estimate_fn J (unW Lu) (unW Lv) ((unW Lv).length-2) (by omega) (by omega) (by omega) (hl _ (by simp)) (hl _ (by simp)) (hl _ (by simp)) (by rw[show(unW Lv).length-2+1=(unW Lv).length-1 by omega];exact q8)
    unfold wV at hp
    rw[←q2,←q4] at hp
    exact hp
   ·exact absurd h (by simp)
  ·split at h
   ·rename_i hf;subst hf
    split at h
    ·obtain⟨rfl,rfl,rfl⟩:=jsome_tri h
     rename_i du Lu dv Lv
     have q1:du= .val (.int .u32 0):=hl _ (by simp)
     have q2:Lu=wds (unW Lu):=hl _ (by simp)
     have q3:dv= .val (.int .u32 0):=hl _ (by simp)
     have q4:Lv=wds (unW Lv):=hl _ (by simp)
     subst q1 q3
     have hp:=below_fn J (unW Lu) (unW Lv) (hl _ (by simp)) (hl _ (by simp)) (hl _ (by simp)) (hl _ (by simp))
     unfold wV at hp
     rw[←q2,←q4] at hp
     exact hp
    ·exact absurd h (by simp)
   ·exact(SGa_ok J).1 f args l fr r h hl
 ·change SGlh f args h nx=some c at hc
  unfold SGlh at hc
  split at hc
  ·exact(SGd_ok J).2 f args h nx c hc hl
  ·split at hc
   ·rename_i hf;subst hf
    split at hc
    ·rename_i k dx Lx s
     split at hc
     ·rename_i ty d L hk
      obtain rfl:=Option.some.inj hc
      have q1:ty=156:=hl _ (by simp)
      have q2:d= .val (.int .u32 0):=hl _ (by simp)
      have q3:dx= .val (.int .u32 0):=hl _ (by simp)
      have q4:Lx=wds (unW Lx):=hl _ (by simp)
      have q5:0≤s:=hl _ (by simp)
      have q6:s<32:=hl _ (by simp)
      subst q1 q2 q3
      have hp:=up_fn J k nx (unW L) (unW Lx) s.toNat (by omega) (hl _ (by simp)) (hl _ (by simp)) (hl _ (by simp))
      rw[Int.toNat_of_nonneg q5,show wV (unW Lx)= .sq 1 (.val (.int .u32 0)) Lx by unfold wV;rw[←q4]] at hp
      exact hp
     ·exact absurd hc (by simp)
    ·exact absurd hc (by simp)
   ·split at hc
    ·rename_i hf;subst hf
     split at hc
     ·rename_i k a n y
      split at hc
      ·rename_i ty d L hk
       split at hc
       ·rename_i dy Ly hy
        obtain rfl:=Option.some.inj hc
        have q1:ty=156:=hl _ (by simp)
        have q2:d= .val (.int .u32 0):=hl _ (by simp)
        have q3:dy= .val (.int .u32 0):=hl _ (by simp)
        have q4:Ly=wds (unW Ly):=hl _ (by simp)
        subst q1 q2 q3
        have hp:=take_fn J k nx a n (unW L) (unW Ly) (hl _ (by simp)) (hl _ (by simp)) (hl _ (by simp)) (hl _ (by simp)) (hl _ (by simp))
        rw[show wV (unW Ly)=(fz h y).1 by rw[hy];unfold wV;rw[←q4]] at hp
        exact hp
       ·exact absurd hc (by simp)
      ·exact absurd hc (by simp)
     ·exact absurd hc (by simp)
    ·exact absurd hc (by simp)
set_option maxHeartbeats 4000000 in
theorem long_fn (J:Inv) (x y:List Nat) (m:Nat) (hx:x.length≤33554432) (hy:y.length=m+2) (hxy:y.length≤x.length) (wx:W32 x) (wy:W32 y) (htop:y.getD (m+1) 0≠0):Fn Tryz.prog J 273 false [wV x,wV y] (.tu [wV (fw (x.length-y.length+1) (vl x/vl y)),wV (fw y.length (vl x%vl y))]):=by
 refine fnI Tryz.func273 rfl (by kernel_rfl) (by simp[V.cl,clL,wV,wds_cl]) (SGl_ok J) ?_
 unfold Tryz.f273
 obtain⟨s,hs,hsI,hV1,hV2⟩:=long_norm wy hy htop
 have hinit:=long_init (s:=s) wx rfl (by omega) hs hV2
 have b0:=wy.get (m+1)
 have t1:(((m+2:Nat):Int)-1).toNat=m+1:=by omega
 have t2:(((m+2:Nat):Int)).toNat=m+2:=by omega
 have t3:((x.length:Int)+1).toNat=x.length+1:=by omega
 have t4:((x.length:Int)-(m+2:Nat)+1).toNat=x.length-(m+2)+1:=by omega
 have t5:(((m+2:Nat):Int)+1).toNat=m+3:=by omega
 simp only[↓bE,bR,reduceLeDiff,reduceEqDiff,reduceLT,reduceAdd,↓reduceIte,reduceCtorEq,SGaf,SGl,SGlf,SGlh,sdf,wV,hy,t1,t2,t3,t4,t5,hsI,fw_len,List.length_replicate,unW_wds]
 refine⟨by constructor<;>omega,by omega,by omega,by omega,by omega,by omega,by omega,by omega,by omega,by omega,by omega,by omega,wy,by constructor<;>omega,by omega,by omega,by omega,by omega,by omega,by omega,by omega,wx,by constructor<;>omega,by constructor<;>omega,by omega,by omega,by omega,by constructor<;>omega,by omega,by omega,by omega,by constructor<;>omega,?_⟩
 have hdiv:vl x/vl y=vl x*2^s/(vl y*2^s):=(Nat.mul_div_mul_right _ _ (Nat.pow_pos (by omega))).symm
 have hmod:vl x%vl y*2^s=vl x*2^s%(vl y*2^s):=(Nat.mul_mod_mul_right ..).symm
 generalize hV:vl y*2^s=D at *
 generalize hU:vl x*2^s=N at *
 obtain⟨lq,hlq⟩: ∃lq,lq=x.length-(m+2)+1:=⟨_,rfl⟩
 rw[←hlq] at hinit⊢
 refine LoopC.intro (α:=Nat×List Nat×List Nat×List Nat) (fun p=>LongI N D (m+2) p.2.1 p.2.2.1 (x.length+1) lq p.1∧p.2.2.2.length=m+3) (fun p=>⟨[(6, .i s),(7, .ro (.r 0)),(8, .ro (.r 1)),(9, .i (m+2:Nat)),(10, .ro (.r 2)),(11, .ro (.r 3)),(12, .i ((p.1:Int)-1))],[(0, .row 156 (wV (fw (m+2) D))),(1, .row 156 (wV p.2.1)),(2, .row 156 (wV (List.replicate p.1 0++p.2.2.1))),(3, .row 156 (wV p.2.2.2))],4⟩) (fun p=>p.1) (lq,_,[],List.replicate (m+3) 0) ⟨hinit,List.length_replicate⟩ ?_ ?_
 ·simp only[bR,reduceLeDiff,reduceEqDiff,↓reduceIte,reduceCtorEq,wV,List.append_nil]
  rw[fw]
 ·rintro⟨k,L,Q,P⟩ ⟨h1,h2⟩
  have h1:LongI N D (m+2) L Q (x.length+1) lq k:=h1
  simp only at h2
  have e0:=h1.len
  have e1:(List.replicate k 0++Q).length=lq:=by rw[List.length_append,List.length_replicate,Nat.add_comm];exact h1.qlen
  have hD0:0<D:=by
   have:=Nat.pow_pos (show 0<4294967296 by omega) (n:=m+1)
   omega
  cases k with
  |zero=>
   obtain⟨f1,f2⟩:=h1.fin
   simp only[↓bE,bR,reduceLeDiff,reduceEqDiff,reduceAdd,↓reduceIte,reduceCtorEq,SGaf,SGlf,SGlh,SGdh,wV,e0,t2,fw_len,unW_wds]
   refine⟨fun h=>by simp at h,fun _=> ?_⟩
   rw[f1,f2,←hmod,Nat.mul_div_cancel _ (Nat.pow_pos (by omega)),←hdiv,fw_take _ _ _ (by omega),List.replicate_zero,List.nil_append]
   refine⟨by omega,by omega,by omega,h1.w,by omega,by omega,rfl,rfl⟩
  |succ j=>
   obtain⟨g1,g2,g3⟩:=h1.sg hV1
   have hws:=seg_w h1.w j (m+3)
   have hls:=seg_len (l:=L) (a:=j) (n:=m+3) g1
   have hvD:vl (fw (m+2) D)=D:=by rw[fw_vl,Nat.mod_eq_of_lt hV1]
   have htD:2147483648≤(fw (m+2) D).getD (m+1) 0:=by
    rw[fw_get _ _ _ (by omega),Nat.mod_eq_of_lt (Nat.div_lt_of_lt_mul (by rw[←Nat.pow_succ];exact hV1))]
    exact(Nat.le_div_iff_mul_le (Nat.pow_pos (by omega))).2 hV2
   have u1:(((j+1:Nat):Int)-1)=(j:Int):=by omega
   have u2:((j:Int)+(m+2:Nat)+1).toNat=j+(m+3):=by omega
   have u3:j+(j+(m+3)-j)-j=m+3:=by omega
   have u4:j+(m+3)-j=m+3:=by omega
   have u5:m+2-1=m+1:=by omega
   have useg: ∀(l:List Nat) a n,List.take n (List.drop a l)=seg l a n:=fun _ _ _=>rfl
   simp only[↓bE,bR,reduceLeDiff,reduceEqDiff,reduceAdd,↓reduceIte,reduceCtorEq,SGaf,SGlf,SGlh,SGdh,wV,e0,t2,u1,u2,u4,u5,useg,hls,hvD,fw_len,unW_wds]
   have hfit:=h1.fit
   refine⟨fun _=>⟨by constructor<;>omega,by constructor<;>omega,by omega,by omega,by omega,by omega,hws,fw_w _ _,g2,htD,?_⟩,fun h=>by simp at h⟩
   obtain⟨q1,q2⟩:=est_ok (u:=seg L j (m+3)) (v:=fw (m+2) D) (m:=m) (fw_len _ _) hls hws (fw_w _ _) (by rw[hvD];exact g2) htD
   rw[hvD] at q1
   refine LoopC.intro (α:=Nat×List Nat) (fun p=>vl (seg L j (m+3))/D≤p.1∧p.1<4294967296∧p.2.length=m+3) (fun p=>⟨[(6, .i s),(7, .ro (.r 0)),(8, .ro (.r 1)),(9, .i (m+2:Nat)),(10, .ro (.r 2)),(11, .ro (.r 3)),(12, .i j),(13, .val (.int .u64 p.1))],[(0, .row 156 (wV (fw (m+2) D))),(1, .row 156 (wV L)),(2, .row 156 (wV (List.replicate (j+1) 0++Q))),(3, .row 156 (wV p.2))],4⟩) (fun p=>p.1) (est (seg L j (m+3)) (fw (m+2) D),P) ⟨q1,q2,h2⟩ ?_ ?_
   ·simp only[bR,reduceLeDiff,reduceEqDiff,↓reduceIte,reduceCtorEq,wV]
   ·rintro⟨d,R⟩ ⟨r1,r2,r3⟩
    simp only at r1 r2 r3
    simp only[bR,reduceEqDiff,↓reduceIte,reduceCtorEq,wV,fw_len]
    generalize hvv:fw (m+2) D=vv at *
    have hlv:vv.length=m+2:=by rw[←hvv,fw_len]
    have wv:W32 vv:=by rw[←hvv];exact fw_w _ _
    refine LoopC.intro (α:=Nat) (fun i=>i≤m+2) (fun i=>⟨[(6, .i s),(7, .ro (.r 0)),(8, .ro (.r 1)),(9, .i (m+2:Nat)),(10, .ro (.r 2)),(11, .ro (.r 3)),(12, .i j),(13, .val (.int .u64 d)),(14, .val (.int .u64 (cyM vv d i:Nat))),(66, .ro (.r 0)),(67, .i (m+2:Nat)),(68, .i i)],[(0, .row 156 (wV vv)),(1, .row 156 (wV L)),(2, .row 156 (wV (List.replicate (j+1) 0++Q))),(3, .row 156 (wV (fw i (vl (vv.take i)*d)++R.drop i)))],4⟩) (fun i=>m+2-i) 0 (Nat.zero_le _) ?_ ?_
    ·simp only[bR,reduceLeDiff,reduceEqDiff,↓reduceIte,reduceCtorEq,wV,fw,cyM]
     rw[show vl []=0 from rfl,Nat.zero_mul,Nat.zero_div]
     exact⟨rfl,rfl⟩
    ·intro i hi0
     obtain⟨p0,p1⟩:=fw_drop_get (v:=vl (vv.take i)*d) (show i≤m+3 by omega) r3
     simp only[↓bE,bR,reduceLeDiff,reduceEqDiff,reduceLT,↓reduceIte,reduceCtorEq,reduceToNat,reducePow,SGaf,SGlf,SGlh,wV,e0,e1,hlv,p0,t2,u2,u4,useg,hls,unW_wds]
     have hcy:=cyM_le wv d i
     clear hdiv hmod hinit hU hV hV2 g2 g3 q1 q2 htD b0 hsI htop t1 t2 t3 t4 t5 u2 u3 u4 u5 useg
     have set1: ∀z,i<m+3→(fw i (vl (vv.take i)*d)++R.drop i).set i z=fw i (vl (vv.take i)*d)++z::R.drop (i+1):=fun z hz=>by
      rw[List.set_append_right _ _ (by rw[fw_len];omega),fw_len,Nat.sub_self,List.drop_eq_getElem_cons (by omega),List.set_cons_zero]
     refine⟨fun hi=> ?_,fun hi=> ?_⟩
     ·have hi:i<m+2:=by have:=of_decide_eq_true hi;omega
      have b1:=wv.get i
      have hvd:vv.getD i 0*d≤4294967295*4294967295:=Nat.mul_le_mul (by omega) (by omega)
      have hsum:wr .u64 ((cyM vv d i:Nat)+wr .u64 ((d:Int)*wr .u64 (vv.getD i 0:Nat)))=((cyM vv d i+vv.getD i 0*d:Nat):Int):=by
       rw[wr64n (show vv.getD i 0<18446744073709551616 by omega),←Int.natCast_mul,Nat.mul_comm d,wr64n (by omega),←Int.natCast_add,wr64n (by omega)]
      have hc:=cyM_succ vv d i
      refine⟨by omega,by omega,hi,by omega,by omega,by omega,by omega,by constructor<;>omega,Again.intro (i+1) hi (by omega) ?_⟩
      simp only[bR,reduceLeDiff,reduceEqDiff,↓reduceIte,reduceCtorEq]
      rw[set1 _ (by omega),hsum,w32_nat,←mulW_word,List.append_assoc]
      refine⟨⟨?_,by omega⟩,rfl⟩
      rw[hc];omega
     ·obtain rfl:i=m+2:=by have:=of_decide_eq_false hi;omega
      have hPT:(fw (m+2) (vl (vv.take (m+2))*d)++R.drop (m+2)).set (m+2) (w32 (cyM vv d (m+2):Nat))=fw (m+3) (D*d):=by
       rw[set1 _ (by omega),w32_nat,Nat.mod_eq_of_lt (by omega),List.drop_eq_nil_of_le (by omega)]
       have hf:=mulW_fin wv r2
       rw[hlv,hvD] at hf
       rw[show vv.take (m+2)=vv by rw[←hlv];exact List.take_length,hvD]
       exact hf
      have hPTv:vl (fw (m+3) (D*d))=D*d:=by
       rw[fw_vl,Nat.mod_eq_of_lt]
       rw[Nat.pow_succ]
       exact Nat.mul_lt_mul_of_lt_of_le hV1 (Nat.le_of_lt r2) (by omega)
      simp only[hPT,hPTv,fw_len]
      refine⟨by omega,by omega,by omega,by constructor<;>omega,by constructor<;>omega,by omega,by omega,by omega,by omega,trivial,hws,fw_w _ _,fun hb=> ?_,fun hb=> ?_⟩
      ·have hle:D*d≤vl (seg L j (m+3)):=by simp at hb;omega
       have hdq:d=vl (seg L j (m+3))/D:=Nat.le_antisymm ((Nat.le_div_iff_mul_le hD0).2 (by rw[Nat.mul_comm];exact hle)) r1
       have hst:=h1.step hV1 hD0 (fw (m+3) (D*d)) (by rw[hPTv,Nat.mul_comm,←hdq])
       rw[←hdq] at hst
       refine⟨by constructor<;>omega,by constructor<;>omega,by omega,by omega,by omega,by omega,by omega,by omega,h1.w,fw_w _ _,by omega,by omega,by omega,by constructor<;>omega,Again.intro (j,taken L j (m+3) (fw (m+3) (D*d)),d::Q,fw (m+3) (D*d)) ⟨hst,fw_len _ _⟩ (by simp only;omega) ?_⟩
       simp only[bR,reduceLeDiff,reduceEqDiff,↓reduceIte,reduceCtorEq]
       rw[w32_nat,Nat.mod_eq_of_lt r2,rep_set]
       skip
      ·have hlt:vl (seg L j (m+3))<D*d:=by simp at hb;omega
       have hq:vl (seg L j (m+3))/D<d:=Nat.div_lt_of_lt_mul hlt
       have hd1:0<d:=Nat.lt_of_le_of_lt (Nat.zero_le _) hq
       obtain⟨d,rfl⟩: ∃e,d=e+1:=⟨d-1,(Nat.sub_add_cancel hd1).symm⟩
       refine Again.intro (d,fw (m+3) (D*(d+1))) ⟨Nat.le_of_lt_succ hq,by simp only;omega,fw_len _ _⟩ (by simp only;omega) ?_
       simp only[bR,reduceLeDiff,reduceEqDiff,↓reduceIte,reduceCtorEq]
       rw[show((d+1:Nat):Int)-1=(d:Nat) by omega,wr64n (by omega)]
       skip
theorem short_i (J:Inv) (x:List Nat) (d:Int) (hx:x.length≤67108864) (wx:W32 x) (hd:0<d) (hd2:d<4294967296):Fn Tryz.prog J 271 false [wV x, .val (.int .u32 d)] (.tu [wV (fw x.length (vl x/d.toNat)), .val (.int .u32 (vl x%d.toNat:Nat))]):=by
 have h:=short_fn J x d.toNat hx wx (by omega) (by omega)
 rwa [Int.toNat_of_nonneg (by omega)] at h
theorem long_i (J:Inv) (x y:List Nat) (h2:2≤y.length) (hx:x.length≤33554432) (hxy:y.length≤x.length) (wx:W32 x) (wy:W32 y) (htop:y.getD (y.length-1) 0≠0):Fn Tryz.prog J 273 false [wV x,wV y] (.tu [wV (fw (x.length-y.length+1) (vl x/vl y)),wV (fw y.length (vl x%vl y))]):=
 long_fn J x y (y.length-2) hx (by omega) hxy wx wy (by rw[show y.length-2+1=y.length-1 by omega];exact htop)
def SGif:FuncId→List V→CR:=fun f args=>tab [(141,cW fun a=>cF [a.length≤1073741824,W32 a] false (wV (dg (vl a)))),
 (143,cW fun a=>cF [a.length≤1073741824,W32 a] false (wV (dg (vl a)))),
 (99,cW fun a=>cW fun b=>cF [a.length≤1073741824,b.length≤1073741824,W32 a,W32 b] false (.i (cmp3 (vl a) (vl b)))),
 (271,cW fun x=>cI .u32 fun d=>cF [x.length≤67108864,W32 x,0<d,d<4294967296] false (.tu [wV (fw x.length (vl x/d.toNat)), .val (.int .u32 (vl x%d.toNat:Nat))])),
 (273,cW fun x=>cW fun y=>cF [2≤y.length,x.length≤33554432,y.length≤x.length,W32 x,W32 y,y.getD (y.length-1) 0≠0] false (.tu [wV (fw (x.length-y.length+1) (vl x/vl y)),wV (fw y.length (vl x%vl y))])),
 (272,cI .u64 fun u=>cF [0≤u,u<18446744073709551616] false (wV (dg u.toNat)))] noF f args
def SGi (J:Inv):Sig:=⟨J,sdf,SGif,noH,0⟩
theorem SGi_ok (J:Inv):SigOk Tryz.prog (SGi J):= .plain (tab_ok (.c (.w fun a=> .z fun⟨c0,c1,_⟩=>(by have h:=value_fn J a c0;rwa [trim_dg c1] at h))<|
 .c (.w fun a=> .z fun⟨c0,c1,_⟩=>(by have h:=proper_fn J a c0;rwa [trim_dg c1] at h))<|
 .c (.w fun a=> .w fun b=> .z fun⟨c0,c1,c2,c3,_⟩=>cmp_fn J a b c0 c1 c2 c3)<|
 .c (.w fun x=> .i fun d=> .z fun⟨c0,c1,c2,c3,_⟩=>short_i J x d c0 c1 c2 c3)<|
 .c (.w fun x=> .w fun y=> .z fun⟨c0,c1,c2,c3,c4,c5,_⟩=>long_i J x y c0 c1 c2 c3 c4 c5)<|
 .c (.i fun u=> .z fun⟨c0,_,_⟩=>(by have h:=fromUint_fn J u.toNat (by omega);rwa [Int.toNat_of_nonneg c0] at h))<| .n) noF_ok)
theorem dg_getD_last {n:Nat} (h:n≠0):(dg n).getD ((dg n).length-1) 0≠0:=by
 intro h0
 have h1:=dg_lo h
 have h2:(dg n).length≠0:=fun e=>h (dg_eq_nil.1 (List.length_eq_zero_iff.1 e))
 have h3:=vl_take_succ (dg n) ((dg n).length-1)
 rw[show(dg n).length-1+1=(dg n).length by omega,List.take_length,vl_dg,h0,Nat.mul_zero,Nat.add_zero] at h3
 have h4:=vl_lt (W32.take (W32_dg n) ((dg n).length-1))
 rw[List.length_take,show min ((dg n).length-1) (dg n).length=(dg n).length-1 by omega] at h4
 omega
theorem dg_mono {m n:Nat} (h:m≤n):(dg m).length≤(dg n).length:=dg_len (Nat.lt_of_le_of_lt h (dg_hi n))
theorem divmod_fn (J:Inv) (a d:List Nat) (ha:a.length≤33554432) (hd:d.length≤33554432) (wa:W32 a) (wd:W32 d) (h0:vl d≠0):Fn Tryz.prog J 260 false [wV a,wV d] (.tu [wV (dg (vl a/vl d)),wV (dg (vl a%vl d)), .i 0]):=by
 refine fnI Tryz.func260 rfl (by kernel_rfl) (by simp[V.cl,clL,wV,wds_cl,V.i]) (SGi_ok J) ?_
 unfold Tryz.f260
 simp only[↓bE,bR,reduceLeDiff,reduceEqDiff,reduceLT,reduceAdd,↓reduceIte,reduceCtorEq,reduceToNat,SGi,SGif,wV,unW_wds]
 have la:=trim_len a
 have ld:=trim_len d
 rw[trim_dg wa] at la
 rw[trim_dg wd] at ld
 simp only[vl_dg]
 generalize vl a=m at *
 generalize vl d=n at *
 have hn0:(dg n).length≠0:=fun e=>h0 (dg_eq_nil.1 (List.length_eq_zero_iff.1 e))
 refine⟨by omega,wa,by omega,wd,fun h=>absurd h (by rw[beq_iff_eq];omega),fun _=>⟨by omega,by omega,wa,wd,fun h=> ?_,fun h=> ?_⟩⟩
 ·have hlt:m<n:=by
   rcases Nat.lt_trichotomy m n with h1|rfl|h1
   ·exact h1
   ·rw[cmp3_eq] at h;cases h
   ·rw[cmp3_gt h1] at h;cases h
  rw[Nat.div_eq_of_lt hlt,Nat.mod_eq_of_lt hlt,dg_zero]
  exact⟨by omega,rfl,rfl⟩
 ·have hle:n≤m:=by
   rcases Nat.lt_or_ge m n with h1|h1
   ·rw[cmp3_lt h1] at h;cases h
   ·exact h1
  have hlen:=dg_mono hle
  have hm:=dg_hi m
  refine⟨fun h1=> ?_,fun h1=> ?_⟩
  ·have h2:(dg n).length=1:=by simp at h1;omega
   obtain⟨x,hx⟩:=List.length_eq_one_iff.1 h2
   have hxn:x=n:=by have:=vl_dg n;rw[hx] at this;simpa [vl] using this
   have e1:(dg n).getD 0 0=n:=by rw[hx,hxn];rfl
   have hn:n<4294967296:=by have:=(W32_dg n).get 0;rwa [e1] at this
   have hr:m%n<n:=Nat.mod_lt _ (by omega)
   rw[e1]
   have e2:wr IntKind.u64 ((m%n:Nat):Int)=((m%n:Nat):Int):=wr64n (by omega)
   have e3:vl (fw (dg m).length (m/n))=m/n:=by
    rw[fw_vl,Nat.mod_eq_of_lt (Nat.lt_of_le_of_lt (Nat.div_le_self _ _) hm)]
   rw[e2,e3,Int.toNat_natCast]
   exact⟨by omega,by omega,by omega,W32_dg _,by omega,by omega,by rw[fw_len];omega,fw_w _ _,by omega,by omega,rfl,rfl⟩
  ·have h2:2≤(dg n).length:=by simp at h1;omega
   have e3:vl (fw ((dg m).length-(dg n).length+1) (m/n))=m/n:=by
    rw[fw_vl,Nat.mod_eq_of_lt]
    refine Nat.div_lt_of_lt_mul ?_
    have h3:=dg_lo h0
    calc m<4294967296^(dg m).length:=hm
     _=4294967296^((dg n).length-1)*4294967296^((dg m).length-(dg n).length+1):=by rw[←Nat.pow_add];congr 1;omega
     _≤_:=Nat.mul_le_mul_right _ h3
   have e4:vl (fw (dg n).length (m%n))=m%n:=by
    rw[fw_vl,Nat.mod_eq_of_lt (Nat.lt_trans (Nat.mod_lt _ (by omega)) (dg_hi n))]
   rw[e3,e4]
   exact⟨h2,by omega,hlen,W32_dg _,W32_dg _,dg_getD_last h0,by rw[fw_len];omega,fw_w _ _,by rw[fw_len];omega,fw_w _ _,rfl,rfl⟩
end Go.Proofs.YtfengpdaocgcnaaGreatDoor
