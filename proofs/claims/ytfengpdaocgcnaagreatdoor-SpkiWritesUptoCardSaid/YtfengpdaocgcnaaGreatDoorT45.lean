/- The reference's numbers modulo another one. The reference's Ed25519: numbers modulo p. The reference's Ed25519: sums, products, powers; the number of bytes. The reference's Ed25519: the point of 32 bytes. -/
import Derived.Test.YtfengpdaocgcnaaGreatDoorT44
namespace Go.Proofs.YtfengpdaocgcnaaGreatDoor
open Nat (reduceMul reduceLeDiff reduceEqDiff reduceLT reduceAdd reduceSub reduceDiv)
open Int (reduceToNat reducePow)
open Go.RowKit
set_option linter.unusedSimpArgs false
set_option maxRecDepth 100000
structure S7 (a:List Nat):Prop where
 l:a.length≤128
 w:W32 a
theorem S7.n {a:List Nat} (h:S7 a):(dg (vl a)).length≤128:=by
 have h1:=trim_len a
 rw[trim_dg h.w] at h1
 have:=h.l
 omega
theorem S7.dg {n:Nat} (h:(dg n).length≤128):S7 (dg n):=⟨h,W32_dg n⟩
theorem S7.lt {n p:Nat} (h:n<p) (hp:(Go.Proofs.YtfengpdaocgcnaaGreatDoor.dg p).length≤128):S7 (Go.Proofs.YtfengpdaocgcnaaGreatDoor.dg n):= .dg (Nat.le_trans (dg_mono (Nat.le_of_lt h)) hp)
theorem S7.one (x:Nat) (h:x<4294967296):S7 [x]:=⟨by simp,W32.one h⟩
def RCzf:FuncId→List V→CR:=fun f args=>tab [(267,cF [] false (wV [1]))] RLef f args
def RCz (J:Inv):Sig:=⟨J,sdf,RCzf,noH,0⟩
theorem RCz_ok (J:Inv):SigOk Tryz.prog (RCz J):= .plain (tab_ok (.c (.z fun _=>one7_fn J)<| .n) (RLe_ok J).1)
theorem wrong7_fn (J:Inv) (m:List Nat) (l:List (List Nat)) (hm:S7 m) (h2:2≤vl m) (hl: ∀a∈l,S7 a) (hn:l.length≤1000):Fn Tryz.prog J 252 false [wV m, .sq 1 (wV []) (l.map wV)] (.i 0):=by
 refine fnI Tryz.func252 rfl (by kernel_rfl) rfl (RCz_ok J) ?_
 unfold Tryz.f252
 simp only[bR,reduceAdd,RCz,wV]
 refine LoopC.intro (α:=Nat) (fun k=>k≤l.length) (fun k=>⟨[(0,wV m),(1, .sq 1 (wV []) (l.map wV)),(5, .i k)],[],0⟩) (fun k=>l.length-k) 0 (Nat.zero_le _) ?_ ?_
 ·simp only[bR,reduceLeDiff,reduceEqDiff,↓reduceIte,reduceCtorEq,wV,wds_nil]
  trivial
 ·intro k hk
  simp only[↓bE,bR,reduceLeDiff,reduceEqDiff,reduceLT,↓reduceIte,reduceCtorEq,RCzf,RLef,RLdf,wV,unW_wds,wds_nil,wVs_get]
  refine⟨fun hb=> ?_,fun hb=> ?_⟩
  ·have hk2:k<l.length:=by simpa using hb
   have hm:l.getD k []∈l:=by
    rw[List.getD_eq_getElem?_getD,List.getElem?_eq_getElem hk2]
    exact List.getElem_mem hk2
   have q:=hl _ hm
   have q1:=q.l
   have q2:=q.n
   have q3:=q.w
   repeat (with_reducible refine And.intro ?_ ?_; · first|omega|assumption)
   refine⟨fun h=>absurd h (by rw[decide_eq_true_eq];omega),fun _=>⟨by constructor<;>omega,Again.intro (k+1) hk2 (by show l.length-(k+1)<l.length-k;omega) ?_⟩⟩
   simp only[bR,reduceLeDiff,reduceEqDiff,↓reduceIte,reduceCtorEq]
   omega
  ·have q1:=hm.l
   have q2:=hm.n
   have h3:cmp3 (vl m) (vl [1])=1:=cmp3_gt (by rw[vl_one];omega)
   have q3:=hm.w
   refine⟨by omega,hm.w,fun h=>absurd h (by rw[decide_eq_true_eq];omega),fun _=> ?_⟩
   rw[h3]
   refine⟨by omega,q3,W32.one (by omega),fun h=>absurd h (by simp),fun _=>trivial⟩
def RCwf:FuncId→List V→Option (List Prop×Bool×V):=fun f args=>
 if f=252 then match args with
  |[.sq 1 dm Lm, .sq 1 d L]=>some ([dm= .val (.int .u32 0),Lm=wds (unW Lm),d= .sq 1 (.val (.int .u32 0)) [],L=(unL L).map wV,S7 (unW Lm),2≤vl (unW Lm),∀a∈unL L,S7 a,(unL L).length≤1000],false, .i 0)
  |_=>none
 else none
def RCw (J:Inv):Sig:=⟨J,sdf,RCwf,noH,0⟩
theorem RCw_ok (J:Inv):SigOk Tryz.prog (RCw J):=by
 refine .plain fun f args l fr r h hl=> ?_
 change RCwf f args=some (l,fr,r) at h
 unfold RCwf at h
 split at h
 ·rename_i hf;subst hf
  split at h
  ·obtain⟨rfl,rfl,rfl⟩:=jsome_tri h
   rename_i dm Lm d L
   have q1:dm= .val (.int .u32 0):=hl _ (by simp)
   have q2:Lm=wds (unW Lm):=hl _ (by simp)
   have q3:d= .sq 1 (.val (.int .u32 0)) []:=hl _ (by simp)
   have q4:L=(unL L).map wV:=hl _ (by simp)
   subst q1 q3
   have hp:=wrong7_fn J (unW Lm) (unL L) (hl _ (by simp)) (hl _ (by simp)) (hl _ (by simp)) (hl _ (by simp))
   rw[←q4,show wV (unW Lm)= .sq 1 (.val (.int .u32 0)) Lm by unfold wV;rw[←q2]] at hp
   exact hp
  ·exact absurd h (by simp)
 ·exact absurd h (by simp)
def RCaf:FuncId→List V→CR:=fun f args=>tab [(118,cW fun a=>cW fun d=>cF [a.length≤1048576,d.length≤1048576,W32 a,W32 d,vl d≠0] false (.tu [wV (dg (vl a/vl d)),wV (dg (vl a%vl d))]))] RCwf f args
def RCa (J:Inv):Sig:=⟨J,sdf,RCaf,noH,0⟩
theorem RCa_ok (J:Inv):SigOk Tryz.prog (RCa J):= .plain (tab_ok (.c (.w fun a=> .w fun d=> .z fun⟨c0,c1,c2,c3,c4,_⟩=>divide7_fn J a d c0 c1 c2 c3 c4)<| .n) (RCw_ok J).1)
theorem rest7_fn (J:Inv) (a m:List Nat) (ha:a.length≤1048576) (hm:m.length≤1048576) (wa:W32 a) (wm:W32 m) (h0:vl m≠0):Fn Tryz.prog J 253 false [wV a,wV m] (wV (dg (vl a%vl m))):=by
 refine fnI Tryz.func253 rfl (by kernel_rfl) (wV_cl _) (RCa_ok J) ?_
 unfold Tryz.f253
 simp only[↓bE,bQ,reduceEqDiff,reduceLT,reduceAdd,↓reduceIte,reduceCtorEq,RCa,RCaf]
 exact⟨ha,hm,wa,wm,h0⟩
def RCbf:FuncId→List V→CR:=fun f args=>tab [(253,cW fun a=>cW fun m=>cF [a.length≤1048576,m.length≤1048576,W32 a,W32 m,vl m≠0] false (wV (dg (vl a%vl m)))),
 (119,cW fun a=>cW fun b=>cF [a.length≤1048576,b.length≤1048576,W32 a,W32 b] false (wV (dg (vl a+vl b)))),
 (179,cW fun a=>cW fun b=>cF [a.length≤1048576,b.length≤1048576,W32 a,W32 b] false (wV (dg (vl a*vl b)))),
 (123,cW fun a=>cW fun b=>cF [a.length≤1048576,b.length≤a.length,W32 a,W32 b,vl b≤vl a] false (wV (dg (vl a-vl b))))] RCaf f args
def RCb (J:Inv):Sig:=⟨J,sdf,RCbf,noH,0⟩
theorem RCb_ok (J:Inv):SigOk Tryz.prog (RCb J):= .plain (tab_ok (.c (.w fun a=> .w fun m=> .z fun⟨c0,c1,c2,c3,c4,_⟩=>rest7_fn J a m c0 c1 c2 c3 c4)<|
 .c (.w fun a=> .w fun b=> .z fun⟨c0,c1,c2,c3,_⟩=>plus7_fn J a b c0 c1 c2 c3)<|
 .c (.w fun a=> .w fun b=> .z fun⟨c0,c1,c2,c3,_⟩=>times7_fn J a b c0 c1 c2 c3)<|
 .c (.w fun a=> .w fun b=> .z fun⟨c0,c1,c2,c3,c4,_⟩=>minus7_fn J a b c0 c1 c2 c3 c4)<| .n) (RCa_ok J).1)
theorem dg_sum7 {a b:Nat} {k:Nat} (ha:(dg a).length≤k) (hb:(dg b).length≤k):(dg (a+b)).length≤k+1:=dg_sum_len ha hb
section
variable (J:Inv) (a b m:List Nat) (ha:S7 a) (hb:S7 b) (hm:S7 m) (h2:2≤vl m)
include ha hb hm h2
theorem add7_fn:Fn Tryz.prog J 218 false [wV a,wV b,wV m] (.tu [wV (dg ((vl a+vl b)%vl m)), .i 0]):=by
 refine fnI Tryz.func218 rfl (by kernel_rfl) (by simp[V.cl,clL,wV,wds_cl,V.i]) (RCb_ok J) ?_
 unfold Tryz.f218
 simp only[↓bE,bQ,reduceMul,reduceLeDiff,reduceEqDiff,reduceAdd,↓reduceIte,reduceCtorEq,RCb,RCbf,RCaf,RCwf,unL,List.mem_cons,List.not_mem_nil]
 have:=ha.l
 have:=hb.l
 have:=hm.l
 have hs:=dg_sum7 ha.n hb.n
 have:=ha.w
 have:=hb.w
 have:=hm.w
 refine⟨hm,h2,fun x hx=>by rcases hx with rfl|rfl<;>assumption,by simp,fun _=> ?_⟩
 repeat (with_reducible refine And.intro ?_ ?_; · first|omega|assumption)
 first|omega|assumption|rfl
theorem sub7_fn:Fn Tryz.prog J 219 false [wV a,wV b,wV m] (.tu [wV (dg (subM (vl a%vl m) (vl b%vl m) (vl m))), .i 0]):=by
 refine fnI Tryz.func219 rfl (by kernel_rfl) (by simp[V.cl,clL,wV,wds_cl,V.i]) (RCb_ok J) ?_
 unfold Tryz.f219
 simp only[↓bE,bQ,reduceMul,reduceLeDiff,reduceEqDiff,reduceAdd,↓reduceIte,reduceCtorEq,RCb,RCbf,RCaf,RCwf,unL,List.mem_cons,List.not_mem_nil]
 have:=ha.l
 have:=hb.l
 have:=hm.l
 have h3:=Nat.mod_lt (vl a) (show 0<vl m by omega)
 have h4:=Nat.mod_lt (vl b) (show 0<vl m by omega)
 have l1:=dg_mono (Nat.le_of_lt h3)
 have l2:=dg_mono (show vl b%vl m≤vl a%vl m+vl m by omega)
 have l3:=dg_sum7 (a:=vl a%vl m) (b:=vl m) (k:=128) (by have:=hm.n;omega) hm.n
 have l4:=dg_mono (show vl a%vl m+vl m-vl b%vl m≤vl a%vl m+vl m by omega)
 have:=hm.n
 unfold subM
 have:=ha.w
 have:=hb.w
 have:=hm.w
 refine⟨hm,h2,fun x hx=>by rcases hx with rfl|rfl<;>assumption,by simp,fun _=> ?_⟩
 repeat (with_reducible refine And.intro ?_ ?_; · first|omega|assumption)
 first|omega|assumption|rfl
theorem mul7_fn:Fn Tryz.prog J 220 false [wV a,wV b,wV m] (.tu [wV (dg (vl a*vl b%vl m)), .i 0]):=by
 refine fnI Tryz.func220 rfl (by kernel_rfl) (by simp[V.cl,clL,wV,wds_cl,V.i]) (RCb_ok J) ?_
 unfold Tryz.f220
 simp only[↓bE,bQ,reduceMul,reduceLeDiff,reduceEqDiff,reduceAdd,↓reduceIte,reduceCtorEq,RCb,RCbf,RCaf,RCwf,unL,List.mem_cons,List.not_mem_nil]
 have:=ha.l
 have:=hb.l
 have:=hm.l
 have hs:=dg_prod_len (x:=vl a) (y:=vl b) (k:=128) (j:=128) ha.n hb.n
 have:=ha.w
 have:=hb.w
 have:=hm.w
 refine⟨hm,h2,fun x hx=>by rcases hx with rfl|rfl<;>assumption,by simp,fun _=> ?_⟩
 repeat (with_reducible refine And.intro ?_ ?_; · first|omega|assumption)
 first|omega|assumption|rfl
end
theorem P13_fn (J:Inv):Fn Tryz.prog J 112 false [] (wV (dg p25519)):=by
 rw[←prime_dg]
 refine fnI Tryz.func112 rfl (by kernel_rfl) (wV_cl _) (RCb_ok J) ?_
 unfold Tryz.f112
 simp only[bQ,reduceMul,reduceLeDiff,reduceAdd,↓reduceIte,reduceCtorEq,RCb,wds]
 rfl
theorem curve13_fn (J:Inv):Fn Tryz.prog J 117 false [] (wV (dg curveN)):=by
 rw[←curve_dg]
 refine fnI Tryz.func117 rfl (by kernel_rfl) (wV_cl _) (RCb_ok J) ?_
 unfold Tryz.f117
 simp only[bQ,reduceMul,reduceLeDiff,reduceAdd,↓reduceIte,reduceCtorEq,RCb,wds]
 rfl
theorem root13_fn (J:Inv):Fn Tryz.prog J 121 false [] (wV (dg rootN)):=by
 rw[←root_dg]
 refine fnI Tryz.func121 rfl (by kernel_rfl) (wV_cl _) (RCb_ok J) ?_
 unfold Tryz.f121
 simp only[bQ,reduceMul,reduceLeDiff,reduceAdd,↓reduceIte,reduceCtorEq,RCb,wds]
 rfl
def REbf:FuncId→List V→CR:=fun f args=>tab [(112,cF [] false (wV (dg p25519))),
 (119,cW fun a=>cW fun b=>cF [a.length≤1048576,b.length≤1048576,W32 a,W32 b] false (wV (dg (vl a+vl b)))),
 (179,cW fun a=>cW fun b=>cF [a.length≤1048576,b.length≤1048576,W32 a,W32 b] false (wV (dg (vl a*vl b)))),
 (123,cW fun a=>cW fun b=>cF [a.length≤1048576,b.length≤a.length,W32 a,W32 b,vl b≤vl a] false (wV (dg (vl a-vl b)))),
 (111,cW fun a=>cW fun b=>cF [a.length≤67108864,b.length≤67108864,W32 a,W32 b] false (.i (cmp3 (vl a) (vl b)))),
 (176,cW fun l=>cF [l.length≤67108864,W32 l] false (wV (dg (vl l)))),
 (122,cW fun l=>cI .i64 fun n=>cF [0≤n,n<4294967296,W32 l] false (.bb (tb (vl l) n.toNat)))] noF f args
def REb (J:Inv):Sig:=⟨J,sdf,REbf,noH,0⟩
theorem REb_ok (J:Inv):SigOk Tryz.prog (REb J):= .plain (tab_ok (.c (.z fun _=>P13_fn J)<|
 .c (.w fun a=> .w fun b=> .z fun⟨c0,c1,c2,c3,_⟩=>plus7_fn J a b c0 c1 c2 c3)<|
 .c (.w fun a=> .w fun b=> .z fun⟨c0,c1,c2,c3,_⟩=>times7_fn J a b c0 c1 c2 c3)<|
 .c (.w fun a=> .w fun b=> .z fun⟨c0,c1,c2,c3,c4,_⟩=>minus7_fn J a b c0 c1 c2 c3 c4)<|
 .c (.w fun a=> .w fun b=> .z fun⟨c0,c1,c2,c3,_⟩=>cmp7_fn J a b c0 c1 c2 c3)<|
 .c (.w fun l=> .z fun⟨c0,c1,_⟩=>trim7_fn J l c0 c1)<|
 .c (.w fun l=> .i fun n=> .z fun⟨c0,_,c2,_⟩=>(by have h:=bit7_fn J l n.toNat (by omega) c2;rwa [show V.i (n.toNat:Int)= .val (.int .i64 n) by unfold V.i;rw[Int.toNat_of_nonneg c0]] at h))<| .n) noF_ok)
theorem vl_38:vl [38]=38:=vl_one 38
theorem low13_fn (J:Inv) (v:Nat) (hv:(dg v).length≤1000):Fn Tryz.prog J 178 false [wV (dg v)] (wV (dg (v%p25519))):=by
 refine fnI Tryz.func178 rfl (by kernel_rfl) (wV_cl _) (REb_ok J) ?_
 unfold Tryz.f178
 simp only[bQ,REb]
 refine LoopC.intro (α:=Nat×Nat) (fun y=>y.1%p25519=v%p25519∧(dg y.1).length≤1000) (fun y=>⟨[(0,wV (dg y.1))],[],y.2⟩) (fun y=>y.1) (v,0) ⟨rfl,hv⟩ ?_ ?_
 ·simp only[bQ,reduceLeDiff,↓reduceIte,reduceCtorEq]
  skip
 ·rintro⟨u,nn⟩ ⟨h1,h2⟩
  simp only at h1 h2
  simp only[bQ,↓reduceIte,reduceCtorEq]
  have l2:=p_len
  refine⟨fun h=> ?_,fun h=> ?_⟩
  ·have h:8<(dg u).length:=by have h:=of_decide_eq_true h;omega
   have h3:=fold_lt (dg_long h)
   have h4:=fold_eq u
   have h8:((dg u).drop 8).take ((dg u).length-8)=(dg u).drop 8:=List.take_of_length_le (by rw[List.length_drop];omega)
   have hl:(dg (u%4294967296^8+u/4294967296^8*38)).length≤1000:=Nat.le_trans (dg_mono (Nat.le_of_lt h3)) h2
   refine DrawC.sch [(0,some []),(1,some []),(2,some []),(3,some []),(4,none),(5,none),(6,none),(7,some [])] [] (by kernel_rfl) ?_
   simp only[↓bE,bQ,reduceMul,reduceLeDiff,reduceEqDiff,↓reduceIte,reduceCtorEq,reduceToNat,REbf,show unW [V.val (.int .u32 38)]=[38] from rfl,vl_38,dg_lo_take,dg_hi_drop,h8]
   have t38:W32 [38]:=W32.one (by omega)
   have t39:[V.val (.int .u32 38)]=wds [38]:=rfl
   have w1:=(W32_dg u).take 8
   have w2:=(W32_dg u).drop 8
   have q1:((dg u).drop 8).length≤1000:=by rw[List.length_drop];omega
   have q2:((dg u).take 8).length≤1000:=by rw[List.length_take];omega
   have q3:(dg (u/4294967296^8*38)).length≤1000:=Nat.le_trans (dg_mono (Nat.le_of_lt (Nat.lt_of_le_of_lt (Nat.le_add_left _ _) h3))) h2
   repeat (with_reducible refine And.intro ?_ ?_; · first|omega|assumption|rfl)
   refine Again.intro (u%4294967296^8+u/4294967296^8*38,nn+1) ⟨h4.trans h1,hl⟩ h3 ?_
   simp only[bQ,reduceLeDiff,↓reduceIte]
   exact Nat.le_refl _
  ·have h:(dg u).length≤8:=by have h:=of_decide_eq_false h;omega
   have hu:u<4294967296^8:=Nat.lt_of_lt_of_le (dg_hi u) (Nat.pow_le_pow_right (by omega) h)
   refine LoopC.intro (α:=Nat) (fun z=>z%p25519=v%p25519∧(dg z).length≤8) (fun z=>⟨[(0,wV (dg z))],[],nn⟩) (fun z=>z) u ⟨h1,h⟩ ?_ ?_
   ·simp only[bQ,↓reduceIte,reduceCtorEq]
    exact Nat.le_refl _
   ·rintro z ⟨h3,h4⟩
    simp only[↓bE,bQ,reduceEqDiff,↓reduceIte,reduceCtorEq,REbf,cmp3_ge]
    refine⟨by omega,by omega,fun h5=> ?_,fun h5=>⟨by omega,?_⟩⟩
    ·have h5:=of_decide_eq_true h5
     have hp:=p_pos
     refine⟨by omega,dg_mono h5,h5,Again.intro (z-p25519) ⟨?_,Nat.le_trans (dg_mono (Nat.sub_le _ _)) h4⟩ (by omega) ?_⟩
     ·rw[←h3,Nat.mod_eq_sub_mod h5]
     ·simp only[bQ,↓reduceIte]
      exact Nat.le_refl _
    ·have h5:=of_decide_eq_false h5
     rw[←h3,Nat.mod_eq_of_lt (by omega)]
def REdf:FuncId→List V→CR:=fun f args=>tab [(178,cW fun x=>cF [x=dg (vl x),x.length≤1000] false (wV (dg (vl x%p25519))))] REbf f args
def REd (J:Inv):Sig:=⟨J,sdf,REdf,noH,0⟩
theorem REd_ok (J:Inv):SigOk Tryz.prog (REd J):= .plain (tab_ok (.c (.w fun x=> .z fun⟨c0,c1,_⟩=>(by have h:=low13_fn J (vl x) (by rw[←c0];exact c1);rwa [←c0] at h))<| .n) (REb_ok J).1)
theorem S7.p {n:Nat} (h:n<p25519):S7 (Go.Proofs.YtfengpdaocgcnaaGreatDoor.dg n):= .lt h (by have:=p_len;omega)
section
variable (J:Inv) (x y:List Nat) (hx:S7 x) (hy:S7 y)
include hx hy
theorem mul13_fn:Fn Tryz.prog J 113 false [wV x,wV y] (wV (dg (mulP (vl x) (vl y)))):=by
 refine fnI Tryz.func113 rfl (by kernel_rfl) (wV_cl _) (REd_ok J) ?_
 unfold Tryz.f113
 simp only[↓bE,bQ,reduceEqDiff,reduceAdd,↓reduceIte,reduceCtorEq,REd,REdf,REbf,mulP_eq]
 have:=hx.l
 have:=hy.l
 have:=dg_prod_len hx.n hy.n
 have:=hx.w
 have:=hy.w
 repeat (with_reducible refine And.intro ?_ ?_; · first|omega|assumption|rfl)
 omega
theorem add13_fn:Fn Tryz.prog J 116 false [wV x,wV y] (wV (dg (addP (vl x) (vl y)))):=by
 refine fnI Tryz.func116 rfl (by kernel_rfl) (wV_cl _) (REd_ok J) ?_
 unfold Tryz.f116
 simp only[↓bE,bQ,reduceEqDiff,reduceAdd,↓reduceIte,reduceCtorEq,REd,REdf,REbf,addP_eq]
 have:=hx.l
 have:=hy.l
 have:=dg_sum_len hx.n hy.n
 have:=hx.w
 have:=hy.w
 repeat (with_reducible refine And.intro ?_ ?_; · first|omega|assumption|rfl)
 omega
theorem sub13_fn (h1:vl x<p25519) (h2:vl y<p25519) (h3:y=dg (vl y)):Fn Tryz.prog J 114 false [wV x,wV y] (wV (dg (subP (vl x) (vl y)))):=by
 refine fnI Tryz.func114 rfl (by kernel_rfl) (wV_cl _) (REd_ok J) ?_
 unfold Tryz.f114
 simp only[↓bE,bQ,reduceEqDiff,reduceAdd,↓reduceIte,reduceCtorEq,REd,REdf,REbf,subP_eq]
 have:=hx.l
 have:=hy.l
 have hpl:=p_len
 have l1:=dg_sum_len (x:=vl x) (y:=p25519) (k:=128) hx.n (by omega)
 have l2:=dg_mono (show vl y≤vl x+p25519 by omega)
 rw[←h3] at l2
 have l3:=dg_mono (show vl x+p25519-vl y≤vl x+p25519 by omega)
 unfold subM
 rw[Nat.mod_eq_of_lt h1,Nat.mod_eq_of_lt h2]
 have:=hx.w
 have:=hy.w
 repeat (with_reducible refine And.intro ?_ ?_; · first|omega|assumption|rfl)
 rfl
end
def REef:FuncId→List V→CR:=fun f args=>tab [(113,cW fun x=>cW fun y=>cF [S7 x,S7 y] false (wV (dg (mulP (vl x) (vl y))))),
 (116,cW fun x=>cW fun y=>cF [S7 x,S7 y] false (wV (dg (addP (vl x) (vl y))))),
 (114,cW fun x=>cW fun y=>cF [S7 x,S7 y,vl x<p25519,vl y<p25519,y=dg (vl y)] false (wV (dg (subP (vl x) (vl y)))))] REdf f args
def REe (J:Inv):Sig:=⟨J,sdf,REef,noH,0⟩
theorem REe_ok (J:Inv):SigOk Tryz.prog (REe J):= .plain (tab_ok (.c (.w fun x=> .w fun y=> .z fun⟨c0,c1,_⟩=>mul13_fn J x y c0 c1)<|
 .c (.w fun x=> .w fun y=> .z fun⟨c0,c1,_⟩=>add13_fn J x y c0 c1)<|
 .c (.w fun x=> .w fun y=> .z fun⟨c0,c1,c2,c3,c4,_⟩=>sub13_fn J x y c0 c1 c2 c3 c4)<| .n) (REd_ok J).1)
theorem powP_zero (a:Nat):powP a 0=1:=by rw[powP_eq,Nat.pow_zero];exact Nat.mod_eq_of_lt (by have:=p_big;omega)
theorem powP_dbl (a e:Nat):mulP (powP a e) (powP a e)=powP a (2*e):=by
 rw[mulP_eq,powP_eq,powP_eq,←Nat.mul_mod,←Nat.pow_add,←Nat.two_mul]
theorem powP_one (a e:Nat):mulP (powP a e) a=powP a (e+1):=by
 rw[mulP_eq,powP_eq,powP_eq,Nat.pow_succ,Nat.mod_mul_mod]
theorem power13_fn (J:Inv) (a e:Nat) (ha:a<p25519) (he:(dg e).length≤1000):Fn Tryz.prog J 120 false [wV (dg a),wV (dg e)] (wV (dg (powP a e))):=by
 refine fnI Tryz.func120 rfl (by kernel_rfl) (wV_cl _) (REe_ok J) ?_
 unfold Tryz.f120
 have he2:=dg_hi e
 generalize hn:(dg e).length=n at *
 simp only[bQ,reduceMul,reduceLeDiff,reduceEqDiff,reduceAdd,↓reduceIte,reduceCtorEq,REe,hn]
 refine⟨by constructor<;>omega,by constructor<;>omega,?_⟩
 refine LoopC.introA (α:=Nat) (fun k=>k≤32*n) (fun k=>⟨[(0,wV (dg a)),(1,wV (dg e)),(5,wV (dg (powP a (e/2^k)))),(6, .i ((k:Int)-1))],[],1⟩) (fun k=>k) (32*n) [.fzs 0] (Nat.le_refl _) ?_ ?_
 ·have h0:e/2^(32*n)=0:=by rw[←B_pow];exact Nat.div_eq_of_lt he2
  simp only[bQ,reduceLeDiff,reduceEqDiff,↓reduceIte,reduceCtorEq,h0,powP_zero,dg_one]
  exact⟨rfl,by omega⟩
 ·intro k hk
  cases k with
  |zero=>
   simp only[↓bE,bQ,reduceEqDiff,↓reduceIte,reduceCtorEq,REef,REdf,REbf]
   refine⟨fun h=>absurd h (by simp),fun _=> ?_⟩
   rw[Nat.pow_zero,Nat.div_one]
  |succ j=>
   have u1:(((j+1:Nat):Int)-1)=(j:Int):=by omega
   have hb2:=bit_step e j
   rw[tb_nat] at hb2
   simp only[↓bE,bQ,reduceEqDiff,↓reduceIte,reduceCtorEq,REef,REdf,REbf,u1,powP_dbl,powP_one]
   refine⟨fun _=>⟨.p (powP_lt _ _), .p (powP_lt _ _),by omega,by omega,fun hb=> ?_,fun hb=> ?_⟩,fun h=>absurd h (by simp)⟩
   ·rw[hb,show(if true=true then 1 else 0)=1 from rfl] at hb2
    refine⟨.p (powP_lt _ _), .p ha,by constructor<;>omega,Again.intro j (by omega) (by omega) ?_⟩
    simp only[bQ,reduceLeDiff,reduceEqDiff,↓reduceIte,reduceCtorEq,hb2]
    skip
   ·rw[hb,show(if false=true then 1 else 0)=0 from rfl,Nat.add_zero] at hb2
    refine⟨by constructor<;>omega,Again.intro j (by omega) (by omega) ?_⟩
    simp only[bQ,reduceLeDiff,reduceEqDiff,↓reduceIte,reduceCtorEq,hb2]
    skip
def REff:FuncId→List V→CR:=fun f args=>tab [(120,cW fun a=>cW fun e=>cF [a=dg (vl a),vl a<p25519,e=dg (vl e),e.length≤1000] false (wV (dg (powP (vl a) (vl e)))))] REef f args
def REf (J:Inv):Sig:=⟨J,sdf,REff,noH,0⟩
theorem REf_ok (J:Inv):SigOk Tryz.prog (REf J):= .plain (tab_ok (.c (.w fun a=> .w fun e=> .z fun⟨c0,c1,c2,c3,_⟩=>(by have h:=power13_fn J (vl a) (vl e) c1 (by rw[←c2];exact c3);rwa [←c0,←c2] at h))<| .n) (REe_ok J).1)
theorem invP_pow (a:Nat):invP a=powP a (p25519-2):=by rw[invP_eq,powP_eq];rfl
theorem inverse13_fn (J:Inv) (a:Nat) (ha:a<p25519):Fn Tryz.prog J 115 false [wV (dg a)] (wV (dg (invP a))):=by
 rw[invP_pow]
 refine fnI Tryz.func115 rfl (by kernel_rfl) (wV_cl _) (REf_ok J) ?_
 unfold Tryz.f115
 simp only[↓bE,bQ,reduceMul,reduceLeDiff,reduceEqDiff,↓reduceIte,reduceCtorEq,REf,REff,REef,REdf,REbf,show unW [V.val (.int .u32 2)]=[2] from rfl,show vl [2]=2 from vl_one 2]
 have hpl:=p_len
 have hpb:=p_big
 have l1:=dg_mono (Nat.sub_le p25519 2)
 have t1:[V.val (.int .u32 2)]=wds [2]:=rfl
 have t2:W32 [2]:=W32.one (by omega)
 have t3:1≤(dg p25519).length:=by
  rcases Nat.eq_zero_or_pos (dg p25519).length with h|h
  ·have:=dg_eq_nil.1 (List.length_eq_zero_iff.1 h);omega
  ·exact h
 repeat (with_reducible refine And.intro ?_ ?_; · first|omega|assumption|rfl)
 omega
theorem or_byte {m V i c:Nat} (hc:c<256) (hV:V<256^i) (hi:i/4<m):(fw m V).set (i/4) (w32 (bt .or .u32 (((fw m V).getD (i/4) 0:Nat):Int) (wr .u32 (wr .u32 (c:Int)*2^if 8*(i%4)≤32 then 8*(i%4) else 32))))=fw m (V+c*256^i):=by
 obtain⟨h1,h2⟩:=byte_le hc hV hi
 have hp:2^(8*(i%4))≤2^24:=Nat.pow_le_pow_right (by omega) (by omega)
 have hlt:c*2^(8*(i%4))<4294967296:=Nat.mul_lt_mul_of_lt_of_le hc hp (by omega)
 have hcast:(c:Int)*2^(8*(i%4))=((c*2^(8*(i%4)):Nat):Int):=by push_cast;rfl
 rw[if_pos (by omega),wr32n (show c<4294967296 by omega),hcast,wr32n hlt,bt_eq,bits_or32 (W32.get (fw_w _ _) _) hlt,w32_nat,Nat.mod_eq_of_lt h2]
 exact h1
theorem little_fn (J:Inv) (b:List UInt8) (hb:b.length≤1048576):Fn Tryz.prog J 110 false [.by b] (wV (dg (leN b))):=by
 refine fnI Tryz.func110 rfl (by kernel_rfl) (wV_cl _) (REb_ok J) ?_
 unfold Tryz.f110
 have t1:(((b.length:Int)+3)/4).toNat=(b.length+3)/4:=by omega
 have hlt:=leN_lt b
 have hm:(256:Nat)^b.length≤4294967296^((b.length+3)/4):=by rw[B_256];exact Nat.pow_le_pow_right (by omega) (by omega)
 have hm4:b.length≤4*((b.length+3)/4)∧4*((b.length+3)/4)≤b.length+3:=by omega
 generalize hmm:(b.length+3)/4=m at *
 simp only[bQ,↓reduceIte,reduceCtorEq,REb,t1]
 repeat (with_reducible refine And.intro ?_ ?_; · first|omega|(constructor<;>omega))
 refine LoopC.intro (α:=Nat) (fun i=>i≤b.length) (fun i=>⟨[(0, .by b),(3, .ro (.r 0)),(4, .i i)],[(0, .row 156 (wV (fw m (leN (b.take i)))))],1⟩) (fun i=>b.length-i) 0 (Nat.zero_le _) ?_ ?_
 ·simp only[bQ,reduceLeDiff,reduceEqDiff,↓reduceIte,reduceCtorEq,show leN []=0 from rfl,fw_zero]
  rfl
 ·intro i hi
  simp only[↓bE,bQ,reduceEqDiff,↓reduceIte,reduceCtorEq,REbf,fw_len]
  refine⟨fun h=> ?_,fun h=> ?_⟩
  ·have h:i<b.length:=by have h:=of_decide_eq_true h;omega
   refine DrawC.rows [(0,some (true,[])),(1,some (true,[])),(2,some (true,[])),(3,some (true,[])),(4,some (true,[])),(5,some (true,[])),(6,some (true,[])),(7,some (true,[])),(8,some (true,[])),(9,some (true,[])),(10,some (true,[])),(11,some (true,[])),(12,some (true,[])),(13,some (true,[])),(14,some (true,[])),(15,some (true,[])),(16,some (true,[])),(17,some (true,[])),(18,some (true,[])),(19,some (true,[])),(20,none)] [] [20] (by kernel_rfl) ?_
   have e4:((i:Int)/4).toNat=i/4:=by omega
   have e8:8*((i:Int)%4)=((8*(i%4):Nat):Int):=by omega
   have e9:wr .u64 ((8*(i%4):Nat):Int)=((8*(i%4):Nat):Int):=wr64n (by omega)
   simp only[bQ,reduceEqDiff,reduceLT,↓reduceIte,reduceCtorEq,fw_len,e4,e8,e9]
   repeat (with_reducible refine And.intro ?_ ?_; · first|omega|(constructor<;>omega))
   refine Again.intro (i+1) h (by omega) ?_
   simp only[bQ,reduceLeDiff,reduceEqDiff,↓reduceIte,reduceCtorEq]
   have hV:leN (b.take i)<256^i:=by
    have:=leN_lt (b.take i)
    rwa [List.length_take,Nat.min_eq_left hi] at this
   have hbt:byteAt b i=(((b.getD i 0).toNat:Nat):Int):=rfl
   rw[hbt,or_byte (b.getD i 0).toNat_lt hV (by omega),leN_succ h]
   exact⟨by omega,rfl⟩
  ·have h:i=b.length:=by have h:=of_decide_eq_false h;omega
   rw[h,List.take_length,fw_vl,Nat.mod_eq_of_lt (by omega)]
   exact⟨by omega,fw_w _ _,rfl⟩
def REgaf:FuncId→List V→CR:=fun f args=>tab [(112,cF [] false (wV (dg p25519))),
 (117,cF [] false (wV (dg curveN))),
 (121,cF [] false (wV (dg rootN))),
 (113,cW fun x=>cW fun y=>cF [S7 x,S7 y] false (wV (dg (mulP (vl x) (vl y))))),
 (116,cW fun x=>cW fun y=>cF [S7 x,S7 y] false (wV (dg (addP (vl x) (vl y))))),
 (114,cW fun x=>cW fun y=>cF [S7 x,S7 y,vl x<p25519,vl y<p25519,y=dg (vl y)] false (wV (dg (subP (vl x) (vl y))))),
 (120,cW fun a=>cW fun e=>cF [a=dg (vl a),vl a<p25519,e=dg (vl e),e.length≤1000] false (wV (dg (powP (vl a) (vl e))))),
 (115,cW fun a=>cF [a=dg (vl a),vl a<p25519] false (wV (dg (invP (vl a)))))] noF f args
def REga (J:Inv):Sig:=⟨J,sdf,REgaf,noH,0⟩
theorem REga_ok (J:Inv):SigOk Tryz.prog (REga J):= .plain (tab_ok (.c (.z fun _=>P13_fn J)<|
 .c (.z fun _=>curve13_fn J)<|
 .c (.z fun _=>root13_fn J)<|
 .c (.w fun x=> .w fun y=> .z fun⟨c0,c1,_⟩=>mul13_fn J x y c0 c1)<|
 .c (.w fun x=> .w fun y=> .z fun⟨c0,c1,_⟩=>add13_fn J x y c0 c1)<|
 .c (.w fun x=> .w fun y=> .z fun⟨c0,c1,c2,c3,c4,_⟩=>sub13_fn J x y c0 c1 c2 c3 c4)<|
 .c (.w fun a=> .w fun e=> .z fun⟨c0,c1,c2,c3,_⟩=>(by have h:=power13_fn J (vl a) (vl e) c1 (by rw[←c2];exact c3);rwa [←c0,←c2] at h))<|
 .c (.w fun a=> .z fun⟨c0,c1,_⟩=>(by have h:=inverse13_fn J (vl a) c1;rwa [←c0] at h))<| .n) noF_ok)
def REgbf:FuncId→List V→CR:=fun f args=>tab [(110,cY fun b=>cF [b.length≤1048576] false (wV (dg (leN b)))),
 (119,cW fun a=>cW fun b=>cF [a.length≤1048576,b.length≤1048576,W32 a,W32 b] false (wV (dg (vl a+vl b)))),
 (123,cW fun a=>cW fun b=>cF [a.length≤1048576,b.length≤a.length,W32 a,W32 b,vl b≤vl a] false (wV (dg (vl a-vl b)))),
 (111,cW fun a=>cW fun b=>cF [a.length≤67108864,b.length≤67108864,W32 a,W32 b] false (.i (cmp3 (vl a) (vl b)))),
 (122,cW fun l=>cI .i64 fun n=>cF [0≤n,n<4294967296,W32 l] false (.bb (tb (vl l) n.toNat))),
 (118,cW fun a=>cW fun d=>cF [a.length≤1048576,d.length≤1048576,W32 a,W32 d,vl d≠0] false (.tu [wV (dg (vl a/vl d)),wV (dg (vl a%vl d))]))] REgaf f args
def REgb (J:Inv):Sig:=⟨J,sdf,REgbf,noH,0⟩
theorem REgb_ok (J:Inv):SigOk Tryz.prog (REgb J):= .plain (tab_ok (.c (.y fun b=> .z fun⟨c0,_⟩=>little_fn J b c0)<|
 .c (.w fun a=> .w fun b=> .z fun⟨c0,c1,c2,c3,_⟩=>plus7_fn J a b c0 c1 c2 c3)<|
 .c (.w fun a=> .w fun b=> .z fun⟨c0,c1,c2,c3,c4,_⟩=>minus7_fn J a b c0 c1 c2 c3 c4)<|
 .c (.w fun a=> .w fun b=> .z fun⟨c0,c1,c2,c3,_⟩=>cmp7_fn J a b c0 c1 c2 c3)<|
 .c (.w fun l=> .i fun n=> .z fun⟨c0,_,c2,_⟩=>(by have h:=bit7_fn J l n.toNat (by omega) c2;rwa [show V.i (n.toNat:Int)= .val (.int .i64 n) by unfold V.i;rw[Int.toNat_of_nonneg c0]] at h))<|
 .c (.w fun a=> .w fun d=> .z fun⟨c0,c1,c2,c3,c4,_⟩=>divide7_fn J a d c0 c1 c2 c3 c4)<| .n) (REga_ok J).1)
def edX3 (y:Nat) (odd:Bool):Nat:=if (edX1 y%2==1)=odd then edX1 y else p25519-edX1 y
def edPt13 (b:List UInt8):V:=if edOk b=true then .st [wV (dg (edX3 (edYb b) (edOdd b))),wV (dg (edYb b)), .bb false] else .st [.val (.slice none 0 0), .val (.slice none 0 0), .bb false]
theorem edPt13_cl (b:List UInt8):(edPt13 b).cl=true:=by unfold edPt13;split<;>simp[V.cl,clL,wV,wds_cl]
theorem odd_eq (b:List UInt8):(byteAt b 31/128==1)=edOdd b:=by
 unfold edOdd
 have e:byteAt b 31=(((b.getD 31 0).toNat:Nat):Int):=rfl
 have hlt:=(b.getD 31 0).toNat_lt
 rw[e,show(128:Int)=((128:Nat):Int) from rfl,and_u8 (by omega) (by omega)]
 generalize (b.getD 31 0).toNat=n at *
 have h: ∀n,n<256→((n/128==1)= !(n&&&128==0)):=by decide
 have h:=h n hlt
 rw[Bool.eq_iff_iff] at h⊢
 simp only[beq_iff_eq,Bool.not_eq_true',beq_eq_false_iff_ne] at h⊢
 omega
theorem decode13_fn (J:Inv) (b:List UInt8):Fn Tryz.prog J 66 false [.by b] (.tu [edPt13 b, .i (edCo b)]):=by
 refine Fn.of_plain (nx:=20) (post:=[]) ?_ (by have:=edPt13_cl b;simp[V.cl,clL,V.i,this])
 refine fnC Tryz.func66 rfl (by kernel_rfl) (REgb_ok J) rfl ?_
 unfold Tryz.f66
 have u1:unW [V.val (.int .u32 1)]=[1]:=rfl
 have u3:unW [V.val (.int .u32 3)]=[3]:=rfl
 have u8':unW [V.val (.int .u32 8)]=[8]:=rfl
 have v1:vl [1]=1:=vl_one 1
 have v3:vl [3]=3:=vl_one 3
 have v8:vl [8]=8:=vl_one 8
 have hY:leN (b.set 31 (u8 (bt .and .u8 (byteAt b 31) 127)))=edYb b:=rfl
 simp only[↓bD,bQ,reduceMul,reduceLeDiff,reduceEqDiff,reduceLT,reduceAdd,↓reduceIte,reduceCtorEq,reduceToNat,reducePow,REgb,REgbf,REgaf,List.length_set,cmp3_ge,cmp3_zero,u1,u3,u8',v1,v3,v8,hY,odd_eq,tb_zero]
 have hbad:edOk b=false→edPt13 b= .st [.val (.slice none 0 0), .val (.slice none 0 0), .bb false]∧edCo b=93:=fun h2=>by
  unfold edPt13 edCo
  rw[h2]
  exact⟨rfl,rfl⟩
 refine⟨fun h=> ?_,fun h=> ?_⟩
 ·have h1:b.length≠32:=by
   rw[Bool.not_eq_true',beq_eq_false_iff_ne] at h;omega
  obtain⟨e1,e2⟩:=hbad (by unfold edOk;rw[decide_eq_false h1];rfl)
  rw[e1,e2]
  refine .inl ?_
  simp only[bQ,reduceLeDiff,reduceEqDiff,reduceLT,reduceAdd,↓reduceIte]
 ·have h1:b.length=32:=by
   rw[Bool.not_eq_false',beq_iff_eq] at h;omega
  have hk:=and127 b 31
  have hlt:(dg (edYb b)).length≤8:=by
   have h2:=leN_lt (b.set 31 (u8 (bt .and .u8 (byteAt b 31) 127)))
   rw[hY,List.length_set,h1,show(256:Nat)^32=4294967296^8 by decide] at h2
   exact dg_len h2
  have hpl:=p_len
  obtain⟨hk1,hk2⟩:=hk
  repeat (with_reducible refine And.intro ?_ ?_; · first|omega|assumption)
  refine⟨fun h2=> ?_,fun h2=> ?_⟩
  ·rw[decide_eq_true_eq] at h2
   obtain⟨e1,e2⟩:=hbad (by unfold edOk;rw[decide_eq_false (show ¬edYb b<p25519 by omega)];simp)
   rw[e1,e2]
   refine .inl ?_
   simp only[bQ,reduceLeDiff,reduceEqDiff,reduceLT,reduceAdd,↓reduceIte]
  ·have hy:edYb b<p25519:=by rw[decide_eq_false_iff_not] at h2;omega
   have sY:S7 (dg (edYb b)):= .dg (by omega)
   have t1:[V.val (.int .u32 1)]=wds [1]:=rfl
   have t3:[V.val (.int .u32 3)]=wds [3]:=rfl
   have t8:[V.val (.int .u32 8)]=wds [8]:=rfl
   have s1:S7 [1]:=S7.one 1 (by omega)
   have w3:W32 [3]:=W32.one (by omega)
   have w8:W32 [8]:=W32.one (by omega)
   have hpb:=p_big
   have p1:1<p25519:=by omega
   have d1:[1]=dg 1:=dg_one.symm
   have sC:S7 (dg curveN):= .p curve_lt
   have sm: ∀a b,S7 (dg (mulP a b)):=fun a b=> .p (mulP_lt a b)
   have sa: ∀a b,S7 (dg (addP a b)):=fun a b=> .p (addP_lt a b)
   have ss: ∀a b,S7 (dg (subP a b)):=fun a b=> .p (subP_lt a b)
   have si: ∀a,S7 (dg (invP a)):=fun a=> .p (invP_lt a)
   have l3:=dg_sum_len (x:=p25519) (y:=3) (k:=8) hpl (by rw[dg,dif_neg (by omega),show 3/4294967296=0 from rfl,dg_zero];simp)
   have l4:=dg_mono (Nat.div_le_self (p25519+3) 8)
   have hxx:mulP (subP (mulP (edYb b) (edYb b)) 1) (invP (addP (mulP curveN (mulP (edYb b) (edYb b))) 1))=edXX (edYb b):=rfl
   have hx0:powP (edXX (edYb b)) ((p25519+3)/8)=edX0 (edYb b):=by unfold edX0;rw[show 2^3=8 from rfl]
   have hxxl:edXX (edYb b)<p25519:=mulP_lt _ _
   have hx0l:edX0 (edYb b)<p25519:=powP_lt _ _
   have sx0:S7 (dg (edX0 (edYb b))):= .p hx0l
   have lxx:=dgp hxxl
   have lm: ∀a b,(dg (mulP a b)).length≤67108864:=fun a b=>by have:=dgp (mulP_lt a b);omega
   simp only[hxx,hx0]
   repeat (with_reducible refine And.intro ?_ ?_; · first|omega|assumption|exact sm _ _|exact sa _ _|exact ss _ _|exact si _|exact mulP_lt _ _|exact addP_lt _ _|(simp only[List.length_singleton];omega)|exact lm _ _)
   refine⟨fun h3=> ?_,fun h3=> ?_⟩
   case' refine_1=>
    have h4: ¬mulP (edX0 (edYb b)) (edX0 (edYb b))=edXX (edYb b):=by rw[Bool.not_eq_true',decide_eq_false_iff_not] at h3;exact h3
    have hx1:edX1 (edYb b)=mulP (edX0 (edYb b)) rootN:=if_neg h4
    rw[←hx1]
    refine⟨sx0, .p root_lt,?_⟩
   case' refine_2=>
    have h4:mulP (edX0 (edYb b)) (edX0 (edYb b))=edXX (edYb b):=by rw[Bool.not_eq_false',decide_eq_true_eq] at h3;exact h3
    have hx1:edX1 (edYb b)=edX0 (edYb b):=if_pos h4
    rw[←hx1]
   all_goals
    have hxl:edX1 (edYb b)<p25519:=by unfold edX1;split<;>first|exact powP_lt _ _|exact mulP_lt _ _
    clear hx1
    have hb0:(((dg (edX1 (edYb b))).length:Int)==0)=decide (edX1 (edYb b)=0):=by
     rw[Bool.eq_iff_iff,beq_iff_eq,decide_eq_true_eq,←dg_eq_nil,←List.length_eq_zero_iff]
     omega
    have hbd:(!decide (mulP (edX1 (edYb b)) (edX1 (edYb b))=edXX (edYb b))||(decide (edX1 (edYb b)=0)&&edOdd b))=edBad (edYb b) (edOdd b):=rfl
    have sx1:S7 (dg (edX1 (edYb b))):= .p hxl
    have l1:=dgp hxl
    rw[hb0,hbd]
    refine⟨sx1,sx1,lm _ _,by omega,fun h5 h6=>by rw[h5,h6];rfl,fun h5=> ?_,fun h5=>⟨by omega,by omega,fun h6=>⟨by omega,dg_mono (Nat.le_of_lt hxl),Nat.le_of_lt hxl,?_⟩,fun h6=> ?_⟩⟩
    ·obtain⟨e1,e2⟩:=hbad (by unfold edOk;rw[h5];simp)
     rw[e1,e2]
     refine .inl ?_
     simp only[bQ,reduceLeDiff,reduceEqDiff,reduceLT,reduceAdd,↓reduceIte]
    ·have hok:edOk b=true:=by unfold edOk;rw[h5,decide_eq_true h1,decide_eq_true hy];rfl
     have e1:edPt13 b= .st [wV (dg (edX3 (edYb b) (edOdd b))),wV (dg (edYb b)), .bb false]:=by unfold edPt13;rw[hok];rfl
     have e2:edCo b=0:=by unfold edCo;rw[hok];rfl
     have e3:edX3 (edYb b) (edOdd b)=p25519-edX1 (edYb b):=if_neg (by simpa using h6)
     rw[e1,e2,e3]
     refine .inl ?_
     simp only[bQ,reduceLeDiff,reduceEqDiff,reduceLT,reduceAdd,↓reduceIte]
    ·have hok:edOk b=true:=by unfold edOk;rw[h5,decide_eq_true h1,decide_eq_true hy];rfl
     have e1:edPt13 b= .st [wV (dg (edX3 (edYb b) (edOdd b))),wV (dg (edYb b)), .bb false]:=by unfold edPt13;rw[hok];rfl
     have e2:edCo b=0:=by unfold edCo;rw[hok];rfl
     have e3:edX3 (edYb b) (edOdd b)=edX1 (edYb b):=if_pos (by simpa using h6)
     rw[e1,e2,e3]
     refine .inl ?_
     simp only[bQ,reduceLeDiff,reduceEqDiff,reduceLT,reduceAdd,↓reduceIte]
end Go.Proofs.YtfengpdaocgcnaaGreatDoor
