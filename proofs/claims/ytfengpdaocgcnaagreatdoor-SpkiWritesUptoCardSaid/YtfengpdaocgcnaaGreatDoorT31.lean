/- The curves P-256 and P-384 (curve): the point of two coordinates. Public keys (spki): is it a right key?. The law on keys: are they the same bytes; a copy with marks behind it; are the marks still there. -/
import Derived.Test.YtfengpdaocgcnaaGreatDoorT30
namespace Go.Proofs.YtfengpdaocgcnaaGreatDoor
open Nat (reduceMul reduceLeDiff reduceEqDiff reduceLT reduceAdd reduceSub reduceDiv)
open Int (reduceToNat reducePow)
open Go.RowKit
set_option linter.unusedSimpArgs false
set_option maxRecDepth 100000
def SDff:FuncId→List V→CR:=fun f args=>tab [(54,cI .i64 fun c=>cF [] false (ofV c)),
 (93,cY fun b=>cF [b.length≤67108864] false (wV (dg (nb b)))),
 (95,cG fun p b gN gX gY gS gF=>cP fun x=>cP fun y=>cF [(dg p).length≤100,3≤(dg p).length,(dg b).length≤100,gcl gN gX gY gS gF=true,(dg x).length≤100,(dg y).length≤100] false (.bb (crvOn p b x y)))] noF f args
def SDf (J:Inv):Sig:=⟨J,sdf,SDff,noH,0⟩
theorem SDf_ok (J:Inv):SigOk Tryz.prog (SDf J):= .plain (tab_ok (.c (.i fun c=> .z fun _=>of_fn J c)<|
 .c (.y fun b=> .z fun⟨c0,_⟩=>fromBytes_fn J b c0)<|
 .c (.g fun p b gN gX gY gS gF=> .p fun x=> .p fun y=> .z fun⟨c0,c1,c2,c3,c4,c5,_⟩=>on_fn J p b gN gX gY gS gF c0 c1 c2 c3 x y c4 c5)<| .n) noF_ok)
theorem FnH.more {P:Program} {J:Inv} {f:FuncId} {args:List V} {h h':List (Nat×Ob)} {nx n1 n2:Nat} {r:V} (hf:FnH P J f args h nx r h' n1) (hn:n1≤n2):FnH P J f args h nx r h' n2:=by
 refine⟨hf.1,fun w F vs hmem0 hlen hvs=> ?_⟩
 refine(hf.2 w F vs hmem0 hlen hvs).mono fun e w' ⟨v,G,he,hev,hle,hkeep,hmem,hown,hrep⟩=>⟨v,G,he,hev,hle,hkeep,⟨hmem.flt,fun m hm=>hmem.nx m (Nat.le_trans hn hm),hmem.own,hmem.sep,hmem.wsl,hmem.inv⟩,hown,hrep⟩
theorem lendBytes_fn (J:Inv) (k nx:Nat) (b0 v0:V) (b:List UInt8) (hb:b.length≤100000):FnH Tryz.prog J 96 [.op k 0, .by b] [(k, .box 142 (.st [b0,v0]))] nx (pN (nb b)) [] (nx+1):=FnH.more (FnH.lend_box (setBytes_fn J k nx b0 v0 b hb) (by simp)) (by omega)
def SDgh:FuncId→List V→List (Nat×Ob)→Nat→HR:=fun f args h nx=>tabH [(96,fun h nx=>hO fun k=>hY fun b=>hD (hA h k fun bk vk=>hF [b.length≤100000] [(k, .box 142 (.st [bk,vk]))] (pN (nb b)) [] (nx+1)))] noH f args h nx
theorem SDgh_ok (J:Inv):HTab Tryz.prog J SDgh:=tabH_ok (.c (fun _ nx=> .o fun k=> .y fun b=> .d (.A fun bk vk=> .F fun⟨c0,_⟩=>lendBytes_fn J k nx bk vk b c0))<| .n) noH_ok
def SDg (J:Inv) (b:Nat):Sig:=⟨J,sdf,SDff,SDgh,b⟩
theorem SDg_ok (J:Inv) (b:Nat):SigOk Tryz.prog (SDg J b):=⟨(SDf_ok J).1,SDgh_ok J⟩
def gOk (p b size:Nat) (x y:List UInt8):Bool:=decide (x.length=size)&&(decide (y.length=size)&&crvOn p b (nb x) (nb y))
def crvOk (c:Int) (x y:List UInt8):Bool:=if c=1 then gOk (hexN hp256) (hexN hb256) 32 x y else if c=2 then gOk (hexN hp384) (hexN hb384) 48 x y else false
def crvPt (o:Bool) (x y:List UInt8):V:=if o=true then .st [wV (dg (nb x)),wV (dg (nb y)), .bb false] else .st [.val (.slice none 0 0), .val (.slice none 0 0), .bb false]
def crvCo (o:Bool):Int:=if o=true then 0 else 93
theorem crvPt_cl (o:Bool) (x y:List UInt8):(crvPt o x y).cl=true:=by unfold crvPt;split<;>simp[V.cl,clL,wV,wds_cl]
theorem hexN_len2 {s:List UInt8} (h:hexB s=true):(dg (hexN s)).length≤s.length:=hexN_len (hexB_ok h)
theorem p256_l3:3≤(dg (hexN hp256)).length:=by
 have h:Nat.ble (4294967296^2) (hexN hp256)=true:=by kernel_rfl
 have h2:=dg_hi (hexN hp256)
 have h3:=Nat.le_of_ble_eq_true h
 exact Nat.lt_of_not_le fun h4=>absurd (Nat.lt_of_lt_of_le h2 (Nat.pow_le_pow_right (by omega) h4)) (Nat.not_lt.2 h3)
theorem p384_l3:3≤(dg (hexN hp384)).length:=by
 have h:Nat.ble (4294967296^2) (hexN hp384)=true:=by kernel_rfl
 have h2:=dg_hi (hexN hp384)
 have h3:=Nat.le_of_ble_eq_true h
 exact Nat.lt_of_not_le fun h4=>absurd (Nat.lt_of_lt_of_le h2 (Nat.pow_le_pow_right (by omega) h4)) (Nat.not_lt.2 h3)
theorem p256_l:(dg (hexN hp256)).length≤100:=Nat.le_trans (hexN_len2 (by kernel_rfl)) (Nat.le_of_ble_eq_true (by kernel_rfl))
theorem b256_l:(dg (hexN hb256)).length≤100:=Nat.le_trans (hexN_len2 (by kernel_rfl)) (Nat.le_of_ble_eq_true (by kernel_rfl))
theorem p384_l:(dg (hexN hp384)).length≤100:=Nat.le_trans (hexN_len2 (by kernel_rfl)) (Nat.le_of_ble_eq_true (by kernel_rfl))
theorem b384_l:(dg (hexN hb384)).length≤100:=Nat.le_trans (hexN_len2 (by kernel_rfl)) (Nat.le_of_ble_eq_true (by kernel_rfl))
theorem two_one:((2:Int)==1)=false∧((2:Int)==2)=true∧((2:Int)=1)=False:=⟨rfl,rfl,by simp⟩
theorem dec1_fn (J:Inv) (x y:List UInt8) (hx:x.length=32) (hy:y.length=32) (o:Bool) (ho:crvOn (hexN hp256) (hexN hb256) (nb x) (nb y)=o):Fn Tryz.prog J 57 false [.i 1, .by x, .by y] (.tu [crvPt o x y, .i (crvCo o)]):=by
 refine Fn.of_plain (nx:=10) (post:=[]) ?_ (by have:=crvPt_cl o x y;simp[V.cl,clL,V.i,this])
 refine fnC Tryz.func57 rfl (by kernel_rfl) (SDg_ok J 0) rfl ?_
 unfold Tryz.f57
 have e1:((x.length:Int)==((32:Nat):Int))=true:=by rw[beq_iff_eq];omega
 have e2:((y.length:Int)==((32:Nat):Int))=true:=by rw[beq_iff_eq];omega
 simp only[↓bD,bQ,reduceLeDiff,reduceEqDiff,reduceLT,reduceAdd,↓reduceIte,reduceCtorEq,cG,SDg,SDff,SDgh,ofV,grV,pN,stepV,gcl,e1,e2,ho]
 have l1:=nb_dg_len x
 have l2:=nb_dg_len y
 refine⟨by omega,by omega,fun _=>p256_l,fun _=>p256_l3,fun _=>b256_l,fun _=>by omega,fun _=>by omega,fun h=> ?_,fun h=>⟨by omega,by omega,?_⟩⟩
 ·obtain rfl:o=false:=by simpa using h
  refine .inl ?_
  simp only[bQ,reduceLeDiff,reduceEqDiff,reduceLT,reduceAdd,↓reduceIte,crvPt,crvCo]
 ·obtain rfl:o=true:=by simpa using h
  refine .inl ?_
  simp only[bQ,reduceLeDiff,reduceEqDiff,reduceLT,reduceAdd,↓reduceIte,crvPt,crvCo]
theorem dec2_fn (J:Inv) (x y:List UInt8) (hx:x.length=48) (hy:y.length=48) (o:Bool) (ho:crvOn (hexN hp384) (hexN hb384) (nb x) (nb y)=o):Fn Tryz.prog J 57 false [.i 2, .by x, .by y] (.tu [crvPt o x y, .i (crvCo o)]):=by
 refine Fn.of_plain (nx:=10) (post:=[]) ?_ (by have:=crvPt_cl o x y;simp[V.cl,clL,V.i,this])
 refine fnC Tryz.func57 rfl (by kernel_rfl) (SDg_ok J 0) rfl ?_
 unfold Tryz.f57
 have e1:((x.length:Int)==((48:Nat):Int))=true:=by rw[beq_iff_eq];omega
 have e2:((y.length:Int)==((48:Nat):Int))=true:=by rw[beq_iff_eq];omega
 simp only[↓bD,bQ,reduceLeDiff,reduceEqDiff,reduceLT,reduceAdd,↓reduceIte,reduceCtorEq,cG,SDg,SDff,SDgh,ofV,grV,pN,stepV,gcl,e1,e2,ho,two_one]
 have l1:=nb_dg_len x
 have l2:=nb_dg_len y
 refine⟨by omega,by omega,fun _=>p384_l,fun _=>p384_l3,fun _=>b384_l,fun _=>by omega,fun _=>by omega,fun h=> ?_,fun h=>⟨by omega,by omega,?_⟩⟩
 ·obtain rfl:o=false:=by simpa using h
  refine .inl ?_
  simp only[bQ,reduceLeDiff,reduceEqDiff,reduceLT,reduceAdd,↓reduceIte,crvPt,crvCo]
 ·obtain rfl:o=true:=by simpa using h
  refine .inl ?_
  simp only[bQ,reduceLeDiff,reduceEqDiff,reduceLT,reduceAdd,↓reduceIte,crvPt,crvCo]
def SDxf:FuncId→List V→Option (List Prop×Bool×V):=fun f args=>match SDff f args with
 |some r=>some r
 |none=>if f=95 then some ([False],false, .bb true) else none
def SDx (J:Inv):Sig:=⟨J,sdf,SDxf,SDgh,0⟩
theorem SDx_ok (J:Inv):SigOk Tryz.prog (SDx J):=by
 refine⟨fun f args l fr r h hl=> ?_,SDgh_ok J⟩
 change SDxf f args=some (l,fr,r) at h
 unfold SDxf at h
 split at h
 ·rename_i r' hr
  obtain rfl:=Option.some.inj h
  exact(SDf_ok J).1 f args l fr r hr hl
 ·split at h
  ·obtain⟨rfl,rfl,rfl⟩:=jsome_tri h
   exact(hl False (by simp)).elim
  ·exact absurd h (by simp)
theorem dec1x_fn (J:Inv) (x y:List UInt8) (hx:x.length≠32):Fn Tryz.prog J 57 false [.i 1, .by x, .by y] (.tu [crvPt false x y, .i (crvCo false)]):=by
 refine Fn.of_plain (nx:=10) (post:=[]) ?_ (by have:=crvPt_cl false x y;simp[V.cl,clL,V.i,this])
 refine fnC Tryz.func57 rfl (by kernel_rfl) (SDx_ok J) rfl ?_
 unfold Tryz.f57
 have e1:((x.length:Int)==((32:Nat):Int))=false:=by rw[beq_eq_false_iff_ne];omega
 simp only[↓bD,bQ,reduceLeDiff,reduceEqDiff,reduceLT,reduceAdd,↓reduceIte,reduceCtorEq,cG,SDx,SDxf,SDff,SDgh,ofV,grV,pN,stepV,gcl,e1]
 refine .inl ?_
 simp only[bQ,reduceLeDiff,reduceEqDiff,reduceLT,reduceAdd,↓reduceIte,crvPt,crvCo]
theorem dec1y_fn (J:Inv) (x y:List UInt8) (hx:x.length=32) (hy:y.length≠32):Fn Tryz.prog J 57 false [.i 1, .by x, .by y] (.tu [crvPt false x y, .i (crvCo false)]):=by
 refine Fn.of_plain (nx:=10) (post:=[]) ?_ (by have:=crvPt_cl false x y;simp[V.cl,clL,V.i,this])
 refine fnC Tryz.func57 rfl (by kernel_rfl) (SDx_ok J) rfl ?_
 unfold Tryz.f57
 have e1:((x.length:Int)==((32:Nat):Int))=true:=by rw[beq_iff_eq];omega
 have e2:((y.length:Int)==((32:Nat):Int))=false:=by rw[beq_eq_false_iff_ne];omega
 simp only[↓bD,bQ,reduceLeDiff,reduceEqDiff,reduceLT,reduceAdd,↓reduceIte,reduceCtorEq,cG,SDx,SDxf,SDff,SDgh,ofV,grV,pN,stepV,gcl,e1,e2]
 refine .inl ?_
 simp only[bQ,reduceLeDiff,reduceEqDiff,reduceLT,reduceAdd,↓reduceIte,crvPt,crvCo]
theorem dec2x_fn (J:Inv) (x y:List UInt8) (hx:x.length≠48):Fn Tryz.prog J 57 false [.i 2, .by x, .by y] (.tu [crvPt false x y, .i (crvCo false)]):=by
 refine Fn.of_plain (nx:=10) (post:=[]) ?_ (by have:=crvPt_cl false x y;simp[V.cl,clL,V.i,this])
 refine fnC Tryz.func57 rfl (by kernel_rfl) (SDx_ok J) rfl ?_
 unfold Tryz.f57
 have e1:((x.length:Int)==((48:Nat):Int))=false:=by rw[beq_eq_false_iff_ne];omega
 simp only[↓bD,bQ,reduceLeDiff,reduceEqDiff,reduceLT,reduceAdd,↓reduceIte,reduceCtorEq,cG,SDx,SDxf,SDff,SDgh,ofV,grV,pN,stepV,gcl,e1,two_one]
 refine .inl ?_
 simp only[bQ,reduceLeDiff,reduceEqDiff,reduceLT,reduceAdd,↓reduceIte,crvPt,crvCo]
theorem dec2y_fn (J:Inv) (x y:List UInt8) (hx:x.length=48) (hy:y.length≠48):Fn Tryz.prog J 57 false [.i 2, .by x, .by y] (.tu [crvPt false x y, .i (crvCo false)]):=by
 refine Fn.of_plain (nx:=10) (post:=[]) ?_ (by have:=crvPt_cl false x y;simp[V.cl,clL,V.i,this])
 refine fnC Tryz.func57 rfl (by kernel_rfl) (SDx_ok J) rfl ?_
 unfold Tryz.f57
 have e1:((x.length:Int)==((48:Nat):Int))=true:=by rw[beq_iff_eq];omega
 have e2:((y.length:Int)==((48:Nat):Int))=false:=by rw[beq_eq_false_iff_ne];omega
 simp only[↓bD,bQ,reduceLeDiff,reduceEqDiff,reduceLT,reduceAdd,↓reduceIte,reduceCtorEq,cG,SDx,SDxf,SDff,SDgh,ofV,grV,pN,stepV,gcl,e1,e2,two_one]
 refine .inl ?_
 simp only[bQ,reduceLeDiff,reduceEqDiff,reduceLT,reduceAdd,↓reduceIte,crvPt,crvCo]
theorem dec0_fn (J:Inv) (c:Int) (h1:c≠1) (h2:c≠2) (x y:List UInt8):Fn Tryz.prog J 57 false [.val (.int .i64 c), .by x, .by y] (.tu [crvPt false x y, .i (crvCo false)]):=by
 refine Fn.of_plain (nx:=10) (post:=[]) ?_ (by have:=crvPt_cl false x y;simp[V.cl,clL,V.i,this])
 refine fnC Tryz.func57 rfl (by kernel_rfl) (SDx_ok J) rfl ?_
 unfold Tryz.f57
 have e0:ofV c= .val (.pointer none):=by unfold ofV;rw[if_neg h1,if_neg h2]
 simp(maxSteps:=1000000) only[↓bD,bQ,reduceLeDiff,reduceEqDiff,reduceLT,reduceAdd,↓reduceIte,reduceCtorEq,cG,SDx,SDxf,SDff,SDgh,e0,pN]
 refine .inl ?_
 simp only[bQ,reduceLeDiff,reduceEqDiff,reduceLT,reduceAdd,↓reduceIte,crvPt,crvCo]
theorem cdecode_fn (J:Inv) (c:Int) (x y:List UInt8):Fn Tryz.prog J 57 false [.val (.int .i64 c), .by x, .by y] (.tu [crvPt (crvOk c x y) x y, .i (crvCo (crvOk c x y))]):=by
 unfold crvOk
 by_cases h1:c=1
 ·subst h1
  rw[if_pos rfl]
  unfold gOk
  by_cases hx:x.length=32
  ·rw[decide_eq_true hx,Bool.true_and]
   by_cases hy:y.length=32
   ·rw[decide_eq_true hy,Bool.true_and];exact dec1_fn J x y hx hy _ rfl
   ·rw[decide_eq_false hy,Bool.false_and];exact dec1y_fn J x y hx hy
  ·rw[decide_eq_false hx,Bool.false_and];exact dec1x_fn J x y hx
 ·rw[if_neg h1]
  by_cases h2:c=2
  ·subst h2
   rw[if_pos rfl]
   unfold gOk
   by_cases hx:x.length=48
   ·rw[decide_eq_true hx,Bool.true_and]
    by_cases hy:y.length=48
    ·rw[decide_eq_true hy,Bool.true_and];exact dec2_fn J x y hx hy _ rfl
    ·rw[decide_eq_false hy,Bool.false_and];exact dec2y_fn J x y hx hy
   ·rw[decide_eq_false hx,Bool.false_and];exact dec2x_fn J x y hx
  ·rw[if_neg h2];exact dec0_fn J c h1 h2 x y
def lnB (l:List (List UInt8)):Nat:=(l.map List.length).sum
theorem lnB_snoc (l:List (List UInt8)) (b:List UInt8):lnB (l++[b])=lnB l+b.length:=by simp[lnB]
theorem lnB_take (l:List (List UInt8)) (i:Nat):lnB (l.take i)≤lnB l:=by
 have h:=congrArg lnB (List.take_append_drop i l)
 unfold lnB at h⊢
 rw[List.map_append,List.sum_append] at h
 omega
def byOf:V→List UInt8
 | .by l=>l
 |_=>[]
def cL (k:List (List UInt8)→List V→CR):List V→CR
 | .sq 1 d L::r=>cpre [d= .by [],L=(L.map byOf).map V.by] (k (L.map byOf) r)
 |_=>none
theorem EntAt.l {P:Program} {J:Inv} {f:FuncId} {mk:List V→List V} {k:List (List UInt8)→List V→CR} (h: ∀x,EntAt P J f (fun r=>mk (.sq 1 (.by []) (x.map V.by)::r)) (k x)):EntAt P J f mk (cL k):=fun args l fr r hk hl=>by
 unfold cL at hk
 split at hk
 ·rename_i d L rest
  obtain⟨l',h2,rfl⟩:=cpre_some hk
  obtain⟨q1,q2, -⟩:=hl.un
  have:=h _ rest l' fr r h2 hl.r
  rw[q1]
  rw[←q2] at this
  exact this
 ·cases hk
def unB (l:List (List UInt8)):Bool:=decide (lnB l=0)
theorem getD_by (l:List (List UInt8)) (i:Nat):(l.map V.by).getD i (.by [])= .by (l.getD i []):=by
 rw[List.getD_eq_getElem?_getD,List.getD_eq_getElem?_getD,List.getElem?_map]
 cases l[i]?<;>rfl
theorem unused_fn (J:Inv) (l:List (List UInt8)) (hl:lnB l≤4611686018427387904) (hn:l.length≤4611686018427387904):Fn Tryz.prog J 55 false [.sq 1 (.by []) (l.map V.by)] (.bb (unB l)):=by
 refine fnI Tryz.func55 rfl (by kernel_rfl) rfl (SDx_ok J) ?_
 unfold Tryz.f55
 simp only[bQ,↓reduceIte,reduceCtorEq,SDx]
 refine LoopC.intro (α:=Nat) (fun i=>i≤l.length) (fun i=>⟨[(0, .sq 1 (.by []) (l.map V.by)),(2, .bb false),(3, .i (lnB (l.take i))),(6, .sq 1 (.by []) (l.map V.by)),(7, .i l.length),(8, .i i)],[],0⟩) (fun i=>l.length-i) 0 (Nat.zero_le _) ?_ ?_
 ·simp only[bQ,reduceLeDiff,reduceEqDiff,↓reduceIte,reduceCtorEq,show lnB []=0 from rfl]
  exact⟨rfl,rfl⟩
 ·intro i hi
  simp only[bQ,reduceEqDiff,reduceLT,↓reduceIte,reduceCtorEq,getD_by]
  have h5:=lnB_take l i
  refine⟨fun h=> ?_,fun h=> ?_⟩
  ·rw[decide_eq_true_eq] at h
   have h:i<l.length:=by omega
   have e2:l.take (i+1)=l.take i++[l.getD i []]:=by rw[List.take_succ_eq_append_getElem h,List.getD_eq_getElem?_getD,List.getElem?_eq_getElem h];rfl
   have h6:=lnB_take l (i+1)
   rw[e2,lnB_snoc] at h6
   refine⟨by omega,by omega,by constructor<;>omega,by constructor<;>omega,Again.intro (i+1) h (by omega) ?_⟩
   simp only[bQ,reduceLeDiff,reduceEqDiff,↓reduceIte,reduceCtorEq,e2,lnB_snoc]
   exact⟨by omega,by omega⟩
  ·have h:i=l.length:=by rw[decide_eq_false_iff_not] at h;omega
   rw[h,List.take_length]
   unfold unB
   rw[Bool.eq_iff_iff,beq_iff_eq,decide_eq_true_eq]
   omega
def keyV (kty crv:Int) (s n e x y:List UInt8):V:= .st [.val (.int .i64 kty), .val (.int .i64 crv), .by s, .by n, .by e, .by x, .by y]
def goodK (kty crv:Int) (s n e x y:List UInt8):Bool:=
 if kty=1 then decide (crv=0)&&(decide (32≤s.length)&&(decide (s.length≤4096)&&unB [n,e,x,y]))
 else if kty=2 then decide (crv=0)&&(unB [s,x,y]&&decide (rsC n e=0))
 else if kty=3 then crvOk crv x y&&unB [s,n,e]
 else if kty=4 then decide (crv=3)&&(unB [s,n,e,y]&&edOk x)
 else false
def SPaf:FuncId→List V→CR:=fun f args=>tab [(55,cL fun x=>cF [lnB x≤4611686018427387904,x.length≤4611686018427387904] false (.bb (unB x))),
 (56,cY fun n=>cY fun e=>cF [n.length≤67108864,e.length≤67108864] false (.i (rsC n e))),
 (57,cI .i64 fun c=>cY fun x=>cY fun y'=>cF [] false (.tu [crvPt (crvOk c x y') x y', .i (crvCo (crvOk c x y'))])),
 (58,cY fun b=>cF [] false (.tu [edPt b, .i (edCo b)]))] noF f args
def SPa (J:Inv):Sig:=⟨J,sdf,SPaf,noH,0⟩
theorem SPa_ok (J:Inv) (hJ:EdT J):SigOk Tryz.prog (SPa J):= .plain (tab_ok (.c (.l fun x=> .z fun⟨c0,c1,_⟩=>unused_fn J x c0 c1)<|
 .c (.y fun n=> .y fun e=> .z fun⟨c0,c1,_⟩=>key_fn J n e c0 c1)<|
 .c (.i fun c=> .y fun x=> .y fun y'=> .z fun _=>cdecode_fn J c x y')<|
 .c (.y fun b=> .z fun _=>decode_fn J hJ b)<| .n) noF_ok)
theorem k_eq:((1:Int)==1)=true∧((2:Int)==1)=false∧((2:Int)==2)=true∧((3:Int)==1)=false∧((3:Int)==2)=false∧((3:Int)==3)=true∧((4:Int)==1)=false∧((4:Int)==2)=false∧((4:Int)==3)=false∧((4:Int)==4)=true∧((0:Int)==0)=true∧((93:Int)==0)=false:=⟨rfl,rfl,rfl,rfl,rfl,rfl,rfl,rfl,rfl,rfl,rfl,rfl⟩
theorem good1_fn (J:Inv) (hJ:EdT J) (crv:Int) (s n e x y:List UInt8) (hs:s.length≤16777216) (hn:n.length≤16777216) (he:e.length≤16777216) (hx:x.length≤16777216) (hy:y.length≤16777216):Fn Tryz.prog J 29 false [keyV 1 crv s n e x y] (.bb (decide (crv=0)&&(decide (32≤s.length)&&(decide (s.length≤4096)&&unB [n,e,x,y])))):=by
 have l3: ∀a b c:List UInt8,a.length≤16777216→b.length≤16777216→c.length≤16777216→lnB [a,b,c]≤4611686018427387904:=fun a b c h1 h2 h3=>by simp only[lnB,List.map_cons,List.map_nil,List.sum_cons,List.sum_nil];omega
 have l4: ∀a b c d:List UInt8,a.length≤16777216→b.length≤16777216→c.length≤16777216→d.length≤16777216→lnB [a,b,c,d]≤4611686018427387904:=fun a b c d h1 h2 h3 h4=>by simp only[lnB,List.map_cons,List.map_nil,List.sum_cons,List.sum_nil];omega
 refine fnI Tryz.func29 rfl (by kernel_rfl) rfl (SPa_ok J hJ) ?_
 unfold Tryz.f29
 simp only[↓bD,bQ,reduceMul,reduceLeDiff,reduceEqDiff,reduceLT,reduceAdd,↓reduceIte,reduceCtorEq,cL,SPa,SPaf,keyV,byOf]
 have hl:=l4 n e x y hn he hx hy
 rw[←Bool.beq_eq_decide_eq,show decide (32≤(s.length:Int))=decide (32≤s.length) from decide_eq_decide.2 (by omega),show decide ((s.length:Int)≤4096)=decide (s.length≤4096) from decide_eq_decide.2 (by omega)]
 generalize (crv==0)=a
 generalize decide (32≤s.length)=b
 generalize decide (s.length≤4096)=c
 generalize unB [n,e,x,y]=u
 cases a<;>cases b<;>cases c<;>cases u<;>simp[Brg,hl]
theorem good2_fn (J:Inv) (hJ:EdT J) (crv:Int) (s n e x y:List UInt8) (hs:s.length≤16777216) (hn:n.length≤16777216) (he:e.length≤16777216) (hx:x.length≤16777216) (hy:y.length≤16777216):Fn Tryz.prog J 29 false [keyV 2 crv s n e x y] (.bb (decide (crv=0)&&(unB [s,x,y]&&decide (rsC n e=0)))):=by
 have l3: ∀a b c:List UInt8,a.length≤16777216→b.length≤16777216→c.length≤16777216→lnB [a,b,c]≤4611686018427387904:=fun a b c h1 h2 h3=>by simp only[lnB,List.map_cons,List.map_nil,List.sum_cons,List.sum_nil];omega
 have l4: ∀a b c d:List UInt8,a.length≤16777216→b.length≤16777216→c.length≤16777216→d.length≤16777216→lnB [a,b,c,d]≤4611686018427387904:=fun a b c d h1 h2 h3 h4=>by simp only[lnB,List.map_cons,List.map_nil,List.sum_cons,List.sum_nil];omega
 refine fnI Tryz.func29 rfl (by kernel_rfl) rfl (SPa_ok J hJ) ?_
 unfold Tryz.f29
 simp only[↓bD,bQ,reduceMul,reduceLeDiff,reduceEqDiff,reduceLT,reduceAdd,↓reduceIte,reduceCtorEq,cL,SPa,SPaf,keyV,byOf,k_eq]
 have hl:=l3 s x y hs hx hy
 have h1:n.length≤67108864:=by omega
 have h2:e.length≤67108864:=by omega
 rw[←Bool.beq_eq_decide_eq,←Bool.beq_eq_decide_eq]
 generalize (crv==0)=a
 generalize (rsC n e==0)=b
 generalize unB [s,x,y]=u
 cases a<;>cases b<;>cases u<;>simp[Brg,hl,h1,h2]
theorem good3t_fn (J:Inv) (hJ:EdT J) (crv:Int) (s n e x y:List UInt8) (hs:s.length≤16777216) (hn:n.length≤16777216) (he:e.length≤16777216) (_hx:x.length≤16777216) (_hy:y.length≤16777216) (ho:crvOk crv x y=true):Fn Tryz.prog J 29 false [keyV 3 crv s n e x y] (.bb (unB [s,n,e])):=by
 have l3: ∀a b c:List UInt8,a.length≤16777216→b.length≤16777216→c.length≤16777216→lnB [a,b,c]≤4611686018427387904:=fun a b c h1 h2 h3=>by simp only[lnB,List.map_cons,List.map_nil,List.sum_cons,List.sum_nil];omega
 have l4: ∀a b c d:List UInt8,a.length≤16777216→b.length≤16777216→c.length≤16777216→d.length≤16777216→lnB [a,b,c,d]≤4611686018427387904:=fun a b c d h1 h2 h3 h4=>by simp only[lnB,List.map_cons,List.map_nil,List.sum_cons,List.sum_nil];omega
 refine fnI Tryz.func29 rfl (by kernel_rfl) rfl (SPa_ok J hJ) ?_
 unfold Tryz.f29
 simp only[↓bD,bQ,reduceMul,reduceLeDiff,reduceEqDiff,reduceLT,reduceAdd,↓reduceIte,reduceCtorEq,cL,SPa,SPaf,keyV,byOf,k_eq,ho,crvPt,crvCo]
 exact fun _=>l3 s n e hs hn he
theorem good3f_fn (J:Inv) (hJ:EdT J) (crv:Int) (s n e x y:List UInt8) (_hs:s.length≤16777216) (_hn:n.length≤16777216) (_he:e.length≤16777216) (_hx:x.length≤16777216) (_hy:y.length≤16777216) (ho:crvOk crv x y=false):Fn Tryz.prog J 29 false [keyV 3 crv s n e x y] (.bb false):=by
 have l3: ∀a b c:List UInt8,a.length≤16777216→b.length≤16777216→c.length≤16777216→lnB [a,b,c]≤4611686018427387904:=fun a b c h1 h2 h3=>by simp only[lnB,List.map_cons,List.map_nil,List.sum_cons,List.sum_nil];omega
 have l4: ∀a b c d:List UInt8,a.length≤16777216→b.length≤16777216→c.length≤16777216→d.length≤16777216→lnB [a,b,c,d]≤4611686018427387904:=fun a b c d h1 h2 h3 h4=>by simp only[lnB,List.map_cons,List.map_nil,List.sum_cons,List.sum_nil];omega
 refine fnI Tryz.func29 rfl (by kernel_rfl) rfl (SPa_ok J hJ) ?_
 unfold Tryz.f29
 simp only[↓bD,bQ,reduceMul,reduceLeDiff,reduceEqDiff,reduceLT,reduceAdd,↓reduceIte,reduceCtorEq,cL,SPa,SPaf,keyV,byOf,k_eq,ho,crvPt,crvCo]
 exact fun h=>h.elim
theorem good4t_fn (J:Inv) (hJ:EdT J) (crv:Int) (s n e x y:List UInt8) (hs:s.length≤16777216) (hn:n.length≤16777216) (he:e.length≤16777216) (_hx:x.length≤16777216) (hy:y.length≤16777216) (ho:edOk x=true):Fn Tryz.prog J 29 false [keyV 4 crv s n e x y] (.bb (decide (crv=3)&&unB [s,n,e,y])):=by
 have l3: ∀a b c:List UInt8,a.length≤16777216→b.length≤16777216→c.length≤16777216→lnB [a,b,c]≤4611686018427387904:=fun a b c h1 h2 h3=>by simp only[lnB,List.map_cons,List.map_nil,List.sum_cons,List.sum_nil];omega
 have l4: ∀a b c d:List UInt8,a.length≤16777216→b.length≤16777216→c.length≤16777216→d.length≤16777216→lnB [a,b,c,d]≤4611686018427387904:=fun a b c d h1 h2 h3 h4=>by simp only[lnB,List.map_cons,List.map_nil,List.sum_cons,List.sum_nil];omega
 refine fnI Tryz.func29 rfl (by kernel_rfl) rfl (SPa_ok J hJ) ?_
 unfold Tryz.f29
 simp only[↓bD,bQ,reduceMul,reduceLeDiff,reduceEqDiff,reduceLT,reduceAdd,↓reduceIte,reduceCtorEq,cL,SPa,SPaf,keyV,byOf,k_eq,ho,edPt,edCo]
 have hl:=l4 s n e y hs hn he hy
 rw[←Bool.beq_eq_decide_eq]
 generalize (crv==3)=a
 generalize unB [s,n,e,y]=u
 cases a<;>cases u<;>simp[Brg,Br,hl]
theorem good4f_fn (J:Inv) (hJ:EdT J) (crv:Int) (s n e x y:List UInt8) (hs:s.length≤16777216) (hn:n.length≤16777216) (he:e.length≤16777216) (_hx:x.length≤16777216) (hy:y.length≤16777216) (ho:edOk x=false):Fn Tryz.prog J 29 false [keyV 4 crv s n e x y] (.bb false):=by
 have l3: ∀a b c:List UInt8,a.length≤16777216→b.length≤16777216→c.length≤16777216→lnB [a,b,c]≤4611686018427387904:=fun a b c h1 h2 h3=>by simp only[lnB,List.map_cons,List.map_nil,List.sum_cons,List.sum_nil];omega
 have l4: ∀a b c d:List UInt8,a.length≤16777216→b.length≤16777216→c.length≤16777216→d.length≤16777216→lnB [a,b,c,d]≤4611686018427387904:=fun a b c d h1 h2 h3 h4=>by simp only[lnB,List.map_cons,List.map_nil,List.sum_cons,List.sum_nil];omega
 refine fnI Tryz.func29 rfl (by kernel_rfl) rfl (SPa_ok J hJ) ?_
 unfold Tryz.f29
 simp only[↓bD,bQ,reduceMul,reduceLeDiff,reduceEqDiff,reduceLT,reduceAdd,↓reduceIte,reduceCtorEq,cL,SPa,SPaf,keyV,byOf,k_eq,ho,edPt,edCo]
 have hl:=l4 s n e y hs hn he hy
 generalize (crv==3)=a
 generalize unB [s,n,e,y]=u
 cases a<;>cases u<;>simp[Brg,Br,hl]
theorem good0_fn (J:Inv) (hJ:EdT J) (kty crv:Int) (s n e x y:List UInt8) (h1:kty≠1) (h2:kty≠2) (h3:kty≠3) (h4:kty≠4):Fn Tryz.prog J 29 false [keyV kty crv s n e x y] (.bb false):=by
 have e1:(kty==1)=false:=by rw[beq_eq_false_iff_ne];exact h1
 have e2:(kty==2)=false:=by rw[beq_eq_false_iff_ne];exact h2
 have e3:(kty==3)=false:=by rw[beq_eq_false_iff_ne];exact h3
 have e4:(kty==4)=false:=by rw[beq_eq_false_iff_ne];exact h4
 refine fnI Tryz.func29 rfl (by kernel_rfl) rfl (SPa_ok J hJ) ?_
 unfold Tryz.f29
 simp only[↓bD,bQ,reduceEqDiff,reduceLT,reduceAdd,↓reduceIte,SPa,keyV,e1,e2,e3,e4]
theorem good_fn (J:Inv) (hJ:EdT J) (kty crv:Int) (s n e x y:List UInt8) (hs:s.length≤16777216) (hn:n.length≤16777216) (he:e.length≤16777216) (hx:x.length≤16777216) (hy:y.length≤16777216):Fn Tryz.prog J 29 false [keyV kty crv s n e x y] (.bb (goodK kty crv s n e x y)):=by
 unfold goodK
 by_cases h1:kty=1
 ·rw[if_pos h1];subst h1;exact good1_fn J hJ crv s n e x y hs hn he hx hy
 rw[if_neg h1]
 by_cases h2:kty=2
 ·rw[if_pos h2];subst h2;exact good2_fn J hJ crv s n e x y hs hn he hx hy
 rw[if_neg h2]
 by_cases h3:kty=3
 ·rw[if_pos h3];subst h3
  cases ho:crvOk crv x y
  ·rw[Bool.false_and];exact good3f_fn J hJ crv s n e x y hs hn he hx hy ho
  ·rw[Bool.true_and];exact good3t_fn J hJ crv s n e x y hs hn he hx hy ho
 rw[if_neg h3]
 by_cases h4:kty=4
 ·rw[if_pos h4];subst h4
  cases ho:edOk x
  ·rw[Bool.and_false,Bool.and_false];exact good4f_fn J hJ crv s n e x y hs hn he hx hy ho
  ·rw[Bool.and_true];exact good4t_fn J hJ crv s n e x y hs hn he hx hy ho
 rw[if_neg h4]
 exact good0_fn J hJ kty crv s n e x y h1 h2 h3 h4
def mk (n:Nat):List UInt8:=(List.range n).map fun(i:Nat)=>u8 ((150+(i:Int))%256)
theorem mk_length (n:Nat):(mk n).length=n:=by simp[mk]
theorem mk_succ (n:Nat):mk n++[u8 ((150+(n:Int))%256)]=mk (n+1):=by simp[mk,List.range_succ]
theorem mk_zero:mk 0=[]:=rfl
theorem take_snoc (l:List UInt8) {i:Nat} (h:i<l.length):l.take i++[u8 (byteAt l i)]=l.take (i+1):=by
 rw[List.take_succ_eq_append_getElem h]
 congr 2
 unfold u8 byteAt
 rw[List.getD_eq_getElem?_getD,List.getElem?_eq_getElem h]
 simp
theorem marked_own (J:Inv) (l:List UInt8) (nx:Nat) (hl:l.length≤140737488351232):FnH Tryz.prog J 28 [.by l] [] nx (.vw (.r nx) 1 0 l.length) [(nx, .row 5 (.by (l++mk 70)))] (nx+1):=by
 refine fnJ Tryz.func28 rfl (by kernel_rfl) (.plain fun _ _ _ _ _ h=>by simp[S0f] at h:SigOk Tryz.prog ⟨J,sdf,S0f,noH,nx⟩) rfl ?_
 unfold Tryz.f28
 simp only[bQ]
 refine LoopC.introA (α:=Nat×Nat) (fun y=>y.1≤l.length∧nx≤y.2)
  (fun y=>⟨[(3, .ro (.r y.2)),(4, .i y.1),(0, .by l)],[(y.2, .row 5 (.by (l.take y.1)))],y.2+1⟩)
  (fun y=>l.length-y.1) (0,nx) [.sl 3 5 (.by [])] ⟨Nat.zero_le _,Nat.le_refl _⟩ ?_ ?_
 ·simp only[bQ,reduceLeDiff,reduceEqDiff,↓reduceIte,reduceCtorEq]
  exact⟨rfl,Nat.le_refl _⟩
 ·rintro⟨i,k⟩ ⟨q1,q2⟩
  simp only at q1 q2
  simp only[bQ,reduceMul,reduceLeDiff,reduceEqDiff,reduceLT,reduceAdd,↓reduceIte,reduceCtorEq]
  refine⟨fun hi=> ?_,fun hi=> ?_⟩
  ·simp only[decide_eq_true_eq] at hi
   have hi:i<l.length:=by omega
   have h0:=byteAt_lo l i
   have h1:=byteAt_hi l i
   rw[take_snoc l hi]
   refine⟨by omega,by omega,by omega,by omega,by simp only[List.length_take];omega,by constructor<;>omega,Again.intro (i+1,k+2) ⟨by simp only;omega,by simp only;omega⟩ (by simp only;omega) ?_⟩
   simp only[bQ,reduceLeDiff,reduceEqDiff,reduceAdd,↓reduceIte,reduceCtorEq]
   simp
  ·simp only[decide_eq_false_iff_not] at hi
   obtain rfl:i=l.length:=by omega
   rw[List.take_length]
   refine LoopC.intro (α:=Nat×Nat) (fun y=>y.1≤70∧nx≤y.2)
    (fun y=>⟨[(3, .ro (.r y.2)),(5, .i y.1),(0, .by l)],[(y.2, .row 5 (.by (l++mk y.1)))],y.2+1⟩)
    (fun y=>70-y.1) (0,k) ⟨Nat.zero_le _,q2⟩ ?_ ?_
   ·simp only[bQ,reduceLeDiff,reduceEqDiff,↓reduceIte,reduceCtorEq,mk_zero,List.append_nil]
    exact⟨rfl,Nat.le_refl _⟩
   ·clear q1 q2 hi
    rintro⟨i,k⟩ ⟨q1,q2⟩
    simp only at q1 q2
    simp only[bQ,reduceMul,reduceLeDiff,reduceEqDiff,reduceAdd,↓reduceIte,reduceCtorEq]
    refine⟨fun hi=> ?_,fun hi=> ?_⟩
    ·simp only[decide_eq_true_eq] at hi
     have hi:i<70:=by omega
     rw[List.append_assoc,mk_succ]
     refine⟨by constructor<;>omega,by omega,by omega,by simp only[List.length_append,mk_length];omega,by constructor<;>omega,Again.intro (i+1,k+2) ⟨by simp only;omega,by simp only;omega⟩ (by simp only;omega) ?_⟩
     simp only[bQ,reduceLeDiff,reduceEqDiff,reduceAdd,↓reduceIte,reduceCtorEq]
     simp
    ·simp only[decide_eq_false_iff_not] at hi
     obtain rfl:i=70:=by omega
     refine⟨by omega,by simp only[List.length_append];omega,?_⟩
     have n1: ¬nx<nx:=Nat.lt_irrefl _
     refine RenC.intro [(nx,k)] ⟨[(2, .vw (.r nx) 1 0 l.length)],[(nx, .row 5 (.by (l++mk 70)))],nx+1⟩ ?_ ?_
     ·simp only[bQ,↓reduceIte,n1]
      simp
      omega
     ·simp only[bQ,reduceLeDiff,↓reduceIte]
      exact Nat.le_refl _
theorem byteAt_extL {a b:List UInt8} (hl:a.length=b.length) (h: ∀k,k<a.length→byteAt a k=byteAt b k):a=b:=by
 apply List.ext_getElem hl
 intro i h1 h2
 have:=h i h1
 unfold byteAt at this
 rw[List.getD_eq_getElem?_getD,List.getD_eq_getElem?_getD,List.getElem?_eq_getElem h1,List.getElem?_eq_getElem h2] at this
 simp only[Option.getD_some] at this
 exact UInt8.toNat_inj.1 (by omega)
theorem sameBytes_fn (J:Inv) (a b:List UInt8) (ha:a.length≤140737488355328):Fn Tryz.prog J 13 false [.by a, .by b] (.bb (a==b)):=by
 refine fnI Tryz.func13 rfl (by kernel_rfl) rfl (S0_ok J) ?_
 unfold Tryz.f13
 simp only[bQ,reduceEqDiff,reduceAdd,↓reduceIte,reduceCtorEq,S0]
 refine⟨fun h=> ?_,fun h=> ?_⟩
 ·have h: ¬a=b:=fun e=>by subst e;simp at h
  rw[beq_eq_false_iff_ne.2 h]
 ·have hl:a.length=b.length:=by simp at h;omega
  refine LoopC.intro (α:=Nat) (fun i=>i≤a.length∧ ∀k,k<i→byteAt a k=byteAt b k) (fun i=>⟨[(0, .by a),(1, .by b),(5, .i i)],[],0⟩) (fun i=>a.length-i) 0 ⟨Nat.zero_le _,fun k hk=>by omega⟩ ?_ ?_
  ·simp only[bQ,reduceLeDiff,reduceEqDiff,↓reduceIte,reduceCtorEq]
   rfl
  ·rintro i ⟨h1,h2⟩
   simp only[bQ,reduceEqDiff,reduceLT,↓reduceIte,reduceCtorEq]
   refine⟨fun hi=> ?_,fun hi=> ?_⟩
   ·simp only[decide_eq_true_eq] at hi
    refine⟨by omega,by omega,by omega,by omega,fun hb=> ?_,fun hb=> ?_⟩
    ·have hne: ¬a=b:=fun e=>by subst e;simp at hb
     rw[beq_eq_false_iff_ne.2 hne]
    ·have hb:byteAt a i=byteAt b i:=by simpa using hb
     refine⟨by constructor<;>omega,Again.intro (i+1) ⟨by omega,fun k hk=> ?_⟩ (by omega) ?_⟩
     ·rcases Nat.lt_or_ge k i with hl|hl
      ·exact h2 k hl
      ·obtain rfl:k=i:=by omega
       exact hb
     ·simp only[bQ,reduceLeDiff,reduceEqDiff,↓reduceIte,reduceCtorEq]
      simp
   ·simp only[decide_eq_false_iff_not] at hi
    obtain rfl:a=b:=byteAt_extL hl fun k hk=>h2 k (by omega)
    simp
def GWf:FuncId→List V→Option (List Prop×Bool×V):=fun f args=>
 if f=13 then match args with
  |[.by a, .by b]=>some ([a.length≤140737488355328],false, .bb (a==b))
  |_=>none
 else none
def GW (J:Inv) (nx:Nat):Sig:=⟨J,sdf,GWf,noH,nx⟩
theorem GW_ok (J:Inv) (nx:Nat):SigOk Tryz.prog (GW J nx):=by
 refine .plain fun f args l fr r h hl=> ?_
 change GWf f args=some (l,fr,r) at h
 unfold GWf at h
 split at h
 ·rename_i hf;subst hf
  split at h
  ·obtain⟨rfl,rfl,rfl⟩:=jsome_tri h;exact sameBytes_fn J _ _ (hl _ (by simp))
  ·exact absurd h (by simp)
 ·exact absurd h (by simp)
theorem byteAt_mk (m:List UInt8) {i:Nat} (hi:i<70):byteAt (m++mk 70) (m.length+i)=(150+i)%256:=by
 unfold byteAt mk
 rw[List.getD_eq_getElem?_getD,List.getElem?_append_right (by omega)]
 simp only[Nat.add_sub_cancel_left,List.getElem?_map]
 rw[List.getElem?_eq_getElem (by simp;exact hi)]
 simp only[List.getElem_range,Option.map_some,Option.getD_some]
 exact u8_toNat _ (by omega) (by omega)
theorem whole_own (J:Inv) (m l:List UInt8) (k nx:Nat) (hm:m.length=l.length) (hl:l.length≤140737488351232):FnH Tryz.prog J 41 [.vw (.r k) 1 0 l.length, .by l] [(k, .row 5 (.by (m++mk 70)))] nx (.bb (m==l)) [(k, .row 5 (.by (m++mk 70)))] nx:=by
 refine fnJ Tryz.func41 rfl (by kernel_rfl) (GW_ok J nx) rfl ?_
 unfold Tryz.f41
 simp only[bQ,reduceEqDiff,reduceAdd,↓reduceIte,reduceCtorEq,GW]
 have eT:((l.length:Int)+70).toNat=l.length+70:=by omega
 simp only[eT]
 refine⟨by constructor<;>omega,by simp only[List.length_append,mk_length];omega,by omega,by simp only[List.length_append,mk_length];omega,?_⟩
 refine LoopC.intro (α:=Nat) (fun i=>i≤70)
  (fun i=>⟨[(6, .i i),(5, .vw (.r k) 1 0 (l.length+70)),(0, .vw (.r k) 1 0 l.length),(1, .by l)],[(k, .row 5 (.by (m++mk 70)))],nx⟩)
  (fun i=>70-i) 0 (Nat.zero_le _) ?_ ?_
 ·simp only[bQ,reduceEqDiff,↓reduceIte,reduceCtorEq]
  exact⟨rfl,Nat.le_refl _⟩
 ·intro i q
  simp only[bQ,reduceEqDiff,reduceLT,↓reduceIte,reduceCtorEq,GWf]
  refine⟨fun hi=> ?_,fun hi=> ?_⟩
  ·simp only[decide_eq_true_eq] at hi
   have hi:i<70:=by omega
   have e1:((l.length:Int)+i).toNat=l.length+i:=by omega
   have e2:byteAt (m++mk 70) (l.length+i)=(150+i)%256:=by rw[←hm];exact byteAt_mk m hi
   have e3:m.length+70=(m++mk 70).length:=by simp[mk_length]
   simp only[e1,e2]
   refine⟨by constructor<;>omega,by omega,by omega,by omega,by constructor<;>omega,fun h=>by simp at h,fun _=>⟨by constructor<;>omega,Again.intro (i+1) (by omega) (by omega) ?_⟩⟩
   simp only[bQ,reduceEqDiff,↓reduceIte,reduceCtorEq]
   simp
  ·have e:List.take l.length (m++mk 70)=m:=by rw[←hm];simp
   rw[e]
   refine⟨by omega,RenC.skip ?_⟩
   simp only[bQ,↓reduceIte]
   exact Nat.le_refl _
end Go.Proofs.YtfengpdaocgcnaaGreatDoor
